/- The score of a play: the program's side; conditions: the game is one. -/
import Derived.Test.YtpieaeokbblflaaPlayW
import Derived.Test.YtpieaeokbblflaaRk
namespace Go.Proofs.Ytpieaeokbblflaa
open Go.RowKit

set_option maxRecDepth 100000 in
set_option maxHeartbeats 4000000 in
theorem c_score (v vx : Value) (r : GameD) (X Y : Nat) (xs : List Int) (a b : Nat → Nat) (w : World) (h : GameR w v r) (hx : Ints w vx xs) (gk : GameOk r X Y) (hl : xs.length = X + Y)
    (ha : ∀ i (h : i < X), xs[i] = (a i : Int)) (hb : ∀ i (h : i < Y), xs[X + i] = (b i : Int)) (ha1 : ∀ i, a i ≤ 1) (hb1 : ∀ i, b i ≤ 1) :
    Calls Try.prog 99 #[v, vx] w fun e w' => e = .returned (.int .i64 (playW r Y a b X)) ∧ Below w.heap.size w w' := by
  have h2 := h
  obtain ⟨v2, v3, rfl, hp, hr⟩ := id h
  obtain ⟨a2, k2, rfl, l2, -⟩ := hp.out
  obtain ⟨a3, k3, rfl, l3⟩ := hr.out
  have hA := (Below.refl w.heap.size w).alloc (Nat.le_refl _) (.cells #[.int .i64 r.x, .int .i64 r.y, .slice a2 r.p.length k2, .slice a3 r.r.length k3] 46)
  have pB : (w.alloc (.cells #[.int .i64 r.x, .int .i64 r.y, .slice a2 r.p.length k2, .slice a3 r.r.length k3] 46)).heap[w.heap.size]? = some (.cells #[.int .i64 r.x, .int .i64 r.y, .slice a2 r.p.length k2, .slice a3 r.r.length k3] 46 (0, 0)) := heap_alloc_at rfl
  rw [gk.hx, gk.hy] at h h2 hA pB ⊢
  replace h2 := h2.below hA
  have hx2 := hx.below hA
  obtain ⟨⟨z0, z1, z2, z3⟩, -⟩ := blk4 pB
  have hs2 : (w.alloc (.cells #[.int .i64 (X : Int), .int .i64 (Y : Int), .slice a2 r.p.length k2, .slice a3 r.r.length k3] 46)).heap.size = w.heap.size + 1 := by simp
  obtain ⟨pw, hpw⟩ : ∃ z, playW r Y a b X = z := ⟨_, rfl⟩
  rw [hpw]
  replace hpw := Lib.hid hpw
  replace gk := Lib.hid gk
  replace hl := Lib.hid hl
  replace ha := Lib.hid ha
  replace hb := Lib.hid hb
  go_enter Try.func99, Try.ntmps99
  go_wp2_with fail
  refine wp_region_rk (by kernel_rfl) [none, none, none, none, some 8, some 0, some 1, some 2, some 3, some 4, some 5, some 6, some 7] 8 (by kernel_rfl) (by kernel_rfl) (by kernel_rfl) _ rfl w.heap.size [rkV (.pointer (some ⟨w.heap.size, 0, none⟩)), rkV (.int .i64 (X : Int)), rkV (.pointer (some ⟨w.heap.size, 1, none⟩)), rkV (.int .i64 (Y : Int)), rkV (.agg #[.int .i64 (X : Int), .int .i64 (Y : Int), .slice a2 r.p.length k2, .slice a3 r.r.length k3]), rkR (funL r), rkV (vx), rkV (.int .i64 pw)] _ rfl (by kernel_rfl) (by simp) ?_ ?_
  · intro i o ho hi u g ww hbw hd
    have hall : Below w.heap.size w ww := hA.trans (hbw.mono (by simp))
    have hlow : w.heap.size ≤ ww.heap.size := hall.size
    obtain ⟨hcl, hfr⟩ := bcell hbw
    have y_z0 := (hcl _ _ (by omega)).trans z0
    have y_z1 := (hcl _ _ (by omega)).trans z1
    have y_z2 := (hcl _ _ (by omega)).trans z2
    have y_z3 := (hcl _ _ (by omega)).trans z3
    clear hcl hfr
    rcases i with _ | _ | _ | _ | _ | _ | _ | _ | _ | i
    all_goals try obtain rfl := Option.some.inj ho
    all_goals try simp only [putAll, fillL]
    · go_wp2
      exact ⟨_, rfl, kept0 (Below.refl _ _), rfl⟩
    · have e0 : u 0 = .pointer (some ⟨w.heap.size, 0, none⟩) := hd 0 (by decide)
      rw [e0]
      go_wp2
      exact ⟨_, by simp only [putAll, fillL, e0] <;> rfl, kept0 (Below.refl _ _), rfl⟩
    · go_wp2
      exact ⟨_, rfl, kept0 (Below.refl _ _), rfl⟩
    · have e2 : u 2 = .pointer (some ⟨w.heap.size, 1, none⟩) := hd 2 (by decide)
      rw [e2]
      go_wp2
      exact ⟨_, by simp only [putAll, fillL, e2] <;> rfl, kept0 (Below.refl _ _), rfl⟩
    · go_wp2
      exact ⟨_, rfl, kept0 (Below.refl _ _), rfl⟩
    · have e4 : u 4 = .agg #[.int .i64 (X : Int), .int .i64 (Y : Int), .slice a2 r.p.length k2, .slice a3 r.r.length k3] := hd 4 (by decide)
      rw [e4]
      go_wp2_with fail
      refine (c_functional _ r X Y _ (h.below hall) gk.out).mono ?_
      rintro e wn ⟨vn, rfl, hvn, hbn⟩
      go_wp2
      exact ⟨_, by simp only [putAll, fillL, e4] <;> rfl, kept0 hbn, OwnR.mono hvn hlow fun k h => h⟩
    · go_wp2
      exact ⟨_, rfl, kept0 (Below.refl _ _), rfl⟩
    · have e1 : u 1 = .int .i64 (X : Int) := hd 1 (by decide)
      rw [e1]
      have e3 : u 3 = .int .i64 (Y : Int) := hd 3 (by decide)
      rw [e3]
      have d5 : OwnR ww w.heap.size (InI (g 5)) (u 5) _ := hd 5 (by decide)
      obtain ⟨p5, q5, e5, -⟩ := d5.rows.out
      rw [e5]
      have e6 : u 6 = vx := hd 6 (by decide)
      rw [e6]
      go_wp2_with fail
      refine (hpw.out ▸ c_playWorth _ _ r X Y xs a b _ (e5 ▸ d5.rows) (hx.below hall) gk.out hl.out ha.out hb.out ha1 hb1).mono ?_
      rintro e wn ⟨rfl, hbn⟩
      go_wp2
      exact ⟨_, by simp only [putAll, fillL, e1, e3, e5, e6] <;> rfl, kept0 hbn, rfl⟩
    · exact absurd rfl hi
    · simp at ho
  · intro u g w3 hbw hR hAp
    have e7 : u 7 = .int .i64 pw := hR 7 (by decide) (by decide)
    simp only [putAll, fillL]
    rw [e7]
    go_wp2
    go_ret
    exact ⟨rfl, hA.trans (hbw.mono (by simp))⟩
end Go.Proofs.Ytpieaeokbblflaa
