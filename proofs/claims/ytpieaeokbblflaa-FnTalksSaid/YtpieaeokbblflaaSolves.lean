/- The contracts of TalkSolves on both sides; conditions: none. -/
import Derived.Test.YtpieaeokbblflaaRunT
import Derived.Test.YtpieaeokbblflaaPlain
namespace Go.Proofs.Ytpieaeokbblflaa
open Go.RowKit

def okTS (r : TalkD) (t : List (List Int)) : Bool := taskB t && validB r t.length (wid t)
def rowS (r : TalkD) (t : List (List Int)) (i : Nat) : Bool := (List.range (wid t)).all fun j => runE r i j == ent t i j
def solvesT (r : TalkD) (t : List (List Int)) : Bool := okTS r t && (List.range t.length).all (rowS r t)
theorem c_l8Task_is (v : Value) (t : List (List Int)) (b : Bool) (w : World) (h : Rows2 w v t) (hb : taskB t = b) :
    Calls Try.prog 66 #[v] w fun e w' => e = .returned (.bool b) ∧ Below w.heap.size w w' := by rw [← hb]; exact c_l8TaskB v t w h
theorem c_IsTask_is (v : Value) (t : List (List Int)) (b : Bool) (w : World) (h : Rows2 w v t) (hb : taskB t = b) :
    Calls Try.prog 37 #[v] w fun e w' => e = .returned (.bool b) ∧ Below w.heap.size w w' := by
  rw [← hb]; exact (c_impl_IsTask v t w h).mono fun _ _ ⟨h1, h2⟩ => ⟨h1, h2 ▸ Below.refl _ _⟩
theorem c_l8Valid_is (v : Value) (r : TalkD) (rows cols : Int) (b : Bool) (w : World) (h : TalkR w v r) (hb : validB r rows cols = b) :
    Calls Try.prog 107 #[v, .int .i64 rows, .int .i64 cols] w fun e w' => e = .returned (.bool b) ∧ Below w.heap.size w w' := by rw [← hb]; exact c_l8Valid v r rows cols w h
theorem c_isTalk_is (v : Value) (r : TalkD) (rows cols : Int) (b : Bool) (w : World) (h : TalkR w v r) (hb : validB r rows cols = b) :
    Calls Try.prog 105 #[v, .int .i64 rows, .int .i64 cols] w fun e w' => e = .returned (.bool b) ∧ Below w.heap.size w w' := by rw [← hb]; exact c_isTalkV v r rows cols w h

set_option maxRecDepth 100000 in
set_option maxHeartbeats 4000000 in
theorem c_spec_TalkSolves (v u : Value) (r : TalkD) (t : List (List Int)) (w : World) (h : TalkR w v r) (ht0 : Rows2 w u t) :
    Calls Try.prog 41 #[v, u] w fun e w' => e = .returned (.tuple #[.bool (solvesT r t), .bool (okTS r t)]) ∧ Below w.heap.size w w' := by
  obtain ⟨v1, v2, v3, rfl, hp, hs, hx⟩ := id h
  obtain ⟨a1, k1, rfl, l1, -⟩ := hp.out
  obtain ⟨a2, k2, rfl, l2⟩ := hs.out
  obtain ⟨a3, k3, rfl, l3⟩ := hx.out
  have hA := (Below.refl w.heap.size w).alloc (Nat.le_refl _) (.cells #[.slice a1 r.p.length k1, .slice a2 r.s.length k2, .slice a3 r.x.length k3] 38)
  have pB : (w.alloc (.cells #[.slice a1 r.p.length k1, .slice a2 r.s.length k2, .slice a3 r.x.length k3] 38)).heap[w.heap.size]? = some (.cells #[.slice a1 r.p.length k1, .slice a2 r.s.length k2, .slice a3 r.x.length k3] 38 (0, 0)) := heap_alloc_at rfl
  obtain ⟨adt, capt, rfl, hlt⟩ := ht0.out
  have hlb : w.heap.size < (w.alloc (.cells #[.slice a1 r.p.length k1, .slice a2 r.s.length k2, .slice a3 r.x.length k3] 38)).heap.size := by simp
  obtain ⟨⟨z0, z1, z2⟩, -⟩ := blk3 pB
  cases ht : taskB t
  · have hF : okTS r t = false ∧ solvesT r t = false := by simp [okTS, solvesT, ht]
    rw [hF.1, hF.2]
    clear hF
    replace ht := Lib.hid ht
    go_enter Try.func41, Try.ntmps41
    go_wp2_with fail
    refine wp_region_rk (by kernel_rfl) [none, none, none, none, none, none, none, none, none, none, some 0, some 1, some 2, some 3, some 4, some 5, some 6, some 7, some 8, some 9, some 10, some 11, some 12, some 13] 13 (by kernel_rfl) (by kernel_rfl) (by kernel_rfl) _ rfl w.heap.size [rkV (.slice adt t.length capt), rkV (.bool false), rkV (.bool true), rkV (.bool true), rkT, rkT, rkT, rkT, rkT, rkT, rkT, rkT, rkT] _ rfl (by kernel_rfl) (by simp) ?_ ?_
    · intro i o ho hi u g ww hbw hd
      have hall : Below w.heap.size w ww := hA.trans (hbw.mono (by simp))
      have hlow : w.heap.size ≤ ww.heap.size := hall.size
      obtain ⟨hcl, hfr⟩ := bcell hbw
      have y_z0 := (hcl _ _ (by omega)).trans z0
      have y_z1 := (hcl _ _ (by omega)).trans z1
      have y_z2 := (hcl _ _ (by omega)).trans z2
      clear hcl hfr
      rcases i with _ | _ | _ | _ | _ | _ | _ | _ | _ | _ | _ | _ | _ | _ | i
      all_goals try obtain rfl := Option.some.inj ho
      all_goals try simp only [putAll, fillL]
      · go_wp2
        exact ⟨_, rfl, kept0 (Below.refl _ _), rfl⟩
      · have e0 : u 0 = .slice adt t.length capt := hd 0 (by decide)
        rw [e0]
        go_wp2_with fail
        refine (c_l8Task_is _ t false _ (ht0.below hall) ht.out).mono ?_
        rintro e wn ⟨rfl, hbn⟩
        go_wp2
        exact ⟨_, by simp only [putAll, fillL, e0] <;> rfl, kept0 hbn, rfl⟩
      · have e1 : u 1 = .bool false := hd 1 (by decide)
        rw [e1]
        go_wp2
        exact ⟨_, by simp only [putAll, fillL, e1] <;> rfl, kept0 (Below.refl _ _), rfl⟩
      · have e2 : u 2 = .bool true := hd 2 (by decide)
        rw [e2]
        go_wp2
        exact ⟨_, by simp only [putAll, fillL, e2] <;> rfl, kept0 (Below.refl _ _), rfl⟩
      · have e3 : u 3 = .bool true := hd 3 (by decide)
        rw [e3]
        go_wp2
        exact ⟨undef, by simp only [putAll, fillL, e3] <;> rfl, kept0 (Below.refl _ _), trivial⟩
      · have e3 : u 3 = .bool true := hd 3 (by decide)
        rw [e3]
        go_wp2
        exact ⟨undef, by simp only [putAll, fillL, e3] <;> rfl, kept0 (Below.refl _ _), trivial⟩
      · have e3 : u 3 = .bool true := hd 3 (by decide)
        rw [e3]
        go_wp2
        exact ⟨undef, by simp only [putAll, fillL, e3] <;> rfl, kept0 (Below.refl _ _), trivial⟩
      · have e3 : u 3 = .bool true := hd 3 (by decide)
        rw [e3]
        go_wp2
        exact ⟨undef, by simp only [putAll, fillL, e3] <;> rfl, kept0 (Below.refl _ _), trivial⟩
      · have e3 : u 3 = .bool true := hd 3 (by decide)
        rw [e3]
        go_wp2
        exact ⟨undef, by simp only [putAll, fillL, e3] <;> rfl, kept0 (Below.refl _ _), trivial⟩
      · have e3 : u 3 = .bool true := hd 3 (by decide)
        rw [e3]
        go_wp2
        exact ⟨undef, by simp only [putAll, fillL, e3] <;> rfl, kept0 (Below.refl _ _), trivial⟩
      · have e3 : u 3 = .bool true := hd 3 (by decide)
        rw [e3]
        go_wp2
        exact ⟨undef, by simp only [putAll, fillL, e3] <;> rfl, kept0 (Below.refl _ _), trivial⟩
      · have e3 : u 3 = .bool true := hd 3 (by decide)
        rw [e3]
        go_wp2
        exact ⟨undef, by simp only [putAll, fillL, e3] <;> rfl, kept0 (Below.refl _ _), trivial⟩
      · have e3 : u 3 = .bool true := hd 3 (by decide)
        rw [e3]
        go_wp2
        exact ⟨undef, by simp only [putAll, fillL, e3] <;> rfl, kept0 (Below.refl _ _), trivial⟩
      · exact absurd rfl hi
      · simp at ho
    · intro u g' w3 hbw hR hAp
      have e3 : u 3 = .bool true := hR 3 (by decide) (by decide)
      simp only [putAll, fillL]
      rw [e3]
      have hall := hA.trans (hbw.mono (by simp))
      clear hR hAp e3
      go_wp2
      go_ret2
      exact ⟨rfl, hall⟩
  obtain ⟨ht1, ht2, hlen, -⟩ := taskB_yes ht
  obtain ⟨blt, offt, a0, c0, rfl, hbt0, hcellt0, hit0⟩ := ht0.at0 (by omega)
  have hbt : blt < (w.alloc (.cells #[.slice a1 r.p.length k1, .slice a2 r.s.length k2, .slice a3 r.x.length k3] 38)).heap.size := by simp; omega
  have hcellt := ((bcell hA).1 _ _ hbt0).trans hcellt0
  cases hv : validB r t.length (wid t)
  · have hF : okTS r t = false ∧ solvesT r t = false := by simp [okTS, solvesT, hv]
    rw [hF.1, hF.2]
    clear hF
    replace ht := Lib.hid ht
    replace hv := Lib.hid hv
    replace hlen := Lib.hid hlen
    go_enter Try.func41, Try.ntmps41
    go_wp2_with fail
    refine wp_region_rk (by kernel_rfl) [none, none, none, none, none, none, none, none, none, none, some 0, some 1, some 2, some 3, some 4, some 5, some 6, some 7, some 8, some 9, some 10, some 11, some 12, some 13] 13 (by kernel_rfl) (by kernel_rfl) (by kernel_rfl) _ rfl w.heap.size [rkV (.slice (some ⟨blt, offt, none⟩) t.length capt), rkV (.bool true), rkV (.bool false), rkV (.bool false), rkV (.agg #[.slice a1 r.p.length k1, .slice a2 r.s.length k2, .slice a3 r.x.length k3]), rkV (.slice (some ⟨blt, offt, none⟩) t.length capt), rkV (.int .i64 (t.length : Int)), rkV (.slice (some ⟨blt, offt, none⟩) t.length capt), rkV (.pointer (some ⟨blt, offt, none⟩)), rkV (.slice a0 (wid t) c0), rkV (.int .i64 (wid t : Int)), rkV (.bool false), rkV (.bool true)] _ rfl (by kernel_rfl) (by simp) ?_ ?_
    · intro i o ho hi u g ww hbw hd
      have hall : Below w.heap.size w ww := hA.trans (hbw.mono (by simp))
      have hlow : w.heap.size ≤ ww.heap.size := hall.size
      obtain ⟨hcl, hfr⟩ := bcell hbw
      have y_z0 := (hcl _ _ (by omega)).trans z0
      have y_z1 := (hcl _ _ (by omega)).trans z1
      have y_z2 := (hcl _ _ (by omega)).trans z2
      have y_hcellt := (hcl _ _ (by omega)).trans hcellt
      clear hcl hfr
      rcases i with _ | _ | _ | _ | _ | _ | _ | _ | _ | _ | _ | _ | _ | _ | i
      all_goals try obtain rfl := Option.some.inj ho
      all_goals try simp only [putAll, fillL]
      · go_wp2
        exact ⟨_, rfl, kept0 (Below.refl _ _), rfl⟩
      · have e0 : u 0 = .slice (some ⟨blt, offt, none⟩) t.length capt := hd 0 (by decide)
        rw [e0]
        go_wp2_with fail
        refine (c_l8Task_is _ t true _ (ht0.below hall) ht.out).mono ?_
        rintro e wn ⟨rfl, hbn⟩
        go_wp2
        exact ⟨_, by simp only [putAll, fillL, e0] <;> rfl, kept0 hbn, rfl⟩
      · have e1 : u 1 = .bool true := hd 1 (by decide)
        rw [e1]
        go_wp2
        exact ⟨_, by simp only [putAll, fillL, e1] <;> rfl, kept0 (Below.refl _ _), rfl⟩
      · have e2 : u 2 = .bool false := hd 2 (by decide)
        rw [e2]
        go_wp2
        exact ⟨_, by simp only [putAll, fillL, e2] <;> rfl, kept0 (Below.refl _ _), rfl⟩
      · have e3 : u 3 = .bool false := hd 3 (by decide)
        rw [e3]
        go_wp2
        exact ⟨_, by simp only [putAll, fillL, e3] <;> rfl, kept0 (Below.refl _ _), rfl⟩
      · have e3 : u 3 = .bool false := hd 3 (by decide)
        rw [e3]
        go_wp2
        exact ⟨_, by simp only [putAll, fillL, e3] <;> rfl, kept0 (Below.refl _ _), rfl⟩
      · have e3 : u 3 = .bool false := hd 3 (by decide)
        rw [e3]
        have e5 : u 5 = .slice (some ⟨blt, offt, none⟩) t.length capt := hd 5 (by decide)
        rw [e5]
        go_wp2
        exact ⟨_, by simp only [putAll, fillL, e3, e5] <;> rfl, kept0 (Below.refl _ _), rfl⟩
      · have e3 : u 3 = .bool false := hd 3 (by decide)
        rw [e3]
        go_wp2
        exact ⟨_, by simp only [putAll, fillL, e3] <;> rfl, kept0 (Below.refl _ _), rfl⟩
      · have e3 : u 3 = .bool false := hd 3 (by decide)
        rw [e3]
        have e7 : u 7 = .slice (some ⟨blt, offt, none⟩) t.length capt := hd 7 (by decide)
        rw [e7]
        go_wp2
        exact ⟨_, by simp only [putAll, fillL, e3, e7] <;> rfl, kept0 (Below.refl _ _), rfl⟩
      · have e3 : u 3 = .bool false := hd 3 (by decide)
        rw [e3]
        have e8 : u 8 = .pointer (some ⟨blt, offt, none⟩) := hd 8 (by decide)
        rw [e8]
        go_wp2
        exact ⟨_, by simp only [putAll, fillL, e3, e8] <;> rfl, kept0 (Below.refl _ _), rfl⟩
      · have e3 : u 3 = .bool false := hd 3 (by decide)
        rw [e3]
        have e9 : u 9 = .slice a0 (wid t) c0 := hd 9 (by decide)
        rw [e9]
        go_wp2
        exact ⟨_, by simp only [putAll, fillL, e3, e9] <;> rfl, kept0 (Below.refl _ _), rfl⟩
      · have e3 : u 3 = .bool false := hd 3 (by decide)
        rw [e3]
        have e4 : u 4 = .agg #[.slice a1 r.p.length k1, .slice a2 r.s.length k2, .slice a3 r.x.length k3] := hd 4 (by decide)
        rw [e4]
        have e6 : u 6 = .int .i64 (t.length : Int) := hd 6 (by decide)
        rw [e6]
        have e10 : u 10 = .int .i64 (wid t : Int) := hd 10 (by decide)
        rw [e10]
        go_wp2_with fail
        refine (c_l8Valid_is _ r t.length (wid t) false _ (h.below hall) hv.out).mono ?_
        rintro e wn ⟨rfl, hbn⟩
        go_wp2
        exact ⟨_, by simp only [putAll, fillL, e3, e4, e6, e10] <;> rfl, kept0 hbn, rfl⟩
      · have e3 : u 3 = .bool false := hd 3 (by decide)
        rw [e3]
        have e11 : u 11 = .bool false := hd 11 (by decide)
        rw [e11]
        go_wp2
        exact ⟨_, by simp only [putAll, fillL, e3, e11] <;> rfl, kept0 (Below.refl _ _), rfl⟩
      · exact absurd rfl hi
      · simp at ho
    · intro u g' w3 hbw hR hAp
      have e3 : u 3 = .bool false := hR 3 (by decide) (by decide)
      have e12 : u 12 = .bool true := hR 12 (by decide) (by decide)
      simp only [putAll, fillL]
      rw [e3, e12]
      have hall := hA.trans (hbw.mono (by simp))
      clear hR hAp e3 e12
      go_wp2
      go_ret2
      exact ⟨rfl, hall⟩
  have hF : okTS r t = true ∧ solvesT r t = (List.range t.length).all (rowS r t) := by simp [okTS, solvesT, ht, hv]
  obtain ⟨hF1, hF2⟩ := hF
  rw [hF1]
  clear hF1
  replace hF2 := Lib.hid hF2
  have hok : ∀ i j, i < t.length → j < wid t → RunOk r i j := fun i j hi hj => runOk hv (by omega) (by omega)
  replace hok := Lib.hid hok
  replace ht := Lib.hid ht
  replace hv := Lib.hid hv
  replace hlen := Lib.hid hlen
  go_enter Try.func41, Try.ntmps41
  go_wp2_with fail
  refine wp_region_rk (by kernel_rfl) [none, none, none, none, none, none, none, none, none, none, some 0, some 1, some 2, some 3, some 4, some 5, some 6, some 7, some 8, some 9, some 10, some 11, some 12, some 13] 13 (by kernel_rfl) (by kernel_rfl) (by kernel_rfl) _ rfl w.heap.size [rkV (.slice (some ⟨blt, offt, none⟩) t.length capt), rkV (.bool true), rkV (.bool false), rkV (.bool false), rkV (.agg #[.slice a1 r.p.length k1, .slice a2 r.s.length k2, .slice a3 r.x.length k3]), rkV (.slice (some ⟨blt, offt, none⟩) t.length capt), rkV (.int .i64 (t.length : Int)), rkV (.slice (some ⟨blt, offt, none⟩) t.length capt), rkV (.pointer (some ⟨blt, offt, none⟩)), rkV (.slice a0 (wid t) c0), rkV (.int .i64 (wid t : Int)), rkV (.bool true), rkV (.bool false)] _ rfl (by kernel_rfl) (by simp) ?_ ?_
  · intro i o ho hi u g ww hbw hd
    have hall : Below w.heap.size w ww := hA.trans (hbw.mono (by simp))
    have hlow : w.heap.size ≤ ww.heap.size := hall.size
    obtain ⟨hcl, hfr⟩ := bcell hbw
    have y_z0 := (hcl _ _ (by omega)).trans z0
    have y_z1 := (hcl _ _ (by omega)).trans z1
    have y_z2 := (hcl _ _ (by omega)).trans z2
    have y_hcellt := (hcl _ _ (by omega)).trans hcellt
    clear hcl hfr
    rcases i with _ | _ | _ | _ | _ | _ | _ | _ | _ | _ | _ | _ | _ | _ | i
    all_goals try obtain rfl := Option.some.inj ho
    all_goals try simp only [putAll, fillL]
    · go_wp2
      exact ⟨_, rfl, kept0 (Below.refl _ _), rfl⟩
    · have e0 : u 0 = .slice (some ⟨blt, offt, none⟩) t.length capt := hd 0 (by decide)
      rw [e0]
      go_wp2_with fail
      refine (c_l8Task_is _ t true _ (ht0.below hall) ht.out).mono ?_
      rintro e wn ⟨rfl, hbn⟩
      go_wp2
      exact ⟨_, by simp only [putAll, fillL, e0] <;> rfl, kept0 hbn, rfl⟩
    · have e1 : u 1 = .bool true := hd 1 (by decide)
      rw [e1]
      go_wp2
      exact ⟨_, by simp only [putAll, fillL, e1] <;> rfl, kept0 (Below.refl _ _), rfl⟩
    · have e2 : u 2 = .bool false := hd 2 (by decide)
      rw [e2]
      go_wp2
      exact ⟨_, by simp only [putAll, fillL, e2] <;> rfl, kept0 (Below.refl _ _), rfl⟩
    · have e3 : u 3 = .bool false := hd 3 (by decide)
      rw [e3]
      go_wp2
      exact ⟨_, by simp only [putAll, fillL, e3] <;> rfl, kept0 (Below.refl _ _), rfl⟩
    · have e3 : u 3 = .bool false := hd 3 (by decide)
      rw [e3]
      go_wp2
      exact ⟨_, by simp only [putAll, fillL, e3] <;> rfl, kept0 (Below.refl _ _), rfl⟩
    · have e3 : u 3 = .bool false := hd 3 (by decide)
      rw [e3]
      have e5 : u 5 = .slice (some ⟨blt, offt, none⟩) t.length capt := hd 5 (by decide)
      rw [e5]
      go_wp2
      exact ⟨_, by simp only [putAll, fillL, e3, e5] <;> rfl, kept0 (Below.refl _ _), rfl⟩
    · have e3 : u 3 = .bool false := hd 3 (by decide)
      rw [e3]
      go_wp2
      exact ⟨_, by simp only [putAll, fillL, e3] <;> rfl, kept0 (Below.refl _ _), rfl⟩
    · have e3 : u 3 = .bool false := hd 3 (by decide)
      rw [e3]
      have e7 : u 7 = .slice (some ⟨blt, offt, none⟩) t.length capt := hd 7 (by decide)
      rw [e7]
      go_wp2
      exact ⟨_, by simp only [putAll, fillL, e3, e7] <;> rfl, kept0 (Below.refl _ _), rfl⟩
    · have e3 : u 3 = .bool false := hd 3 (by decide)
      rw [e3]
      have e8 : u 8 = .pointer (some ⟨blt, offt, none⟩) := hd 8 (by decide)
      rw [e8]
      go_wp2
      exact ⟨_, by simp only [putAll, fillL, e3, e8] <;> rfl, kept0 (Below.refl _ _), rfl⟩
    · have e3 : u 3 = .bool false := hd 3 (by decide)
      rw [e3]
      have e9 : u 9 = .slice a0 (wid t) c0 := hd 9 (by decide)
      rw [e9]
      go_wp2
      exact ⟨_, by simp only [putAll, fillL, e3, e9] <;> rfl, kept0 (Below.refl _ _), rfl⟩
    · have e3 : u 3 = .bool false := hd 3 (by decide)
      rw [e3]
      have e4 : u 4 = .agg #[.slice a1 r.p.length k1, .slice a2 r.s.length k2, .slice a3 r.x.length k3] := hd 4 (by decide)
      rw [e4]
      have e6 : u 6 = .int .i64 (t.length : Int) := hd 6 (by decide)
      rw [e6]
      have e10 : u 10 = .int .i64 (wid t : Int) := hd 10 (by decide)
      rw [e10]
      go_wp2_with fail
      refine (c_l8Valid_is _ r t.length (wid t) true _ (h.below hall) hv.out).mono ?_
      rintro e wn ⟨rfl, hbn⟩
      go_wp2
      exact ⟨_, by simp only [putAll, fillL, e3, e4, e6, e10] <;> rfl, kept0 hbn, rfl⟩
    · have e3 : u 3 = .bool false := hd 3 (by decide)
      rw [e3]
      have e11 : u 11 = .bool true := hd 11 (by decide)
      rw [e11]
      go_wp2
      exact ⟨_, by simp only [putAll, fillL, e3, e11] <;> rfl, kept0 (Below.refl _ _), rfl⟩
    · exact absurd rfl hi
    · simp at ho
  · intro u g' w3 hbw hR hAp
    have e3 : u 3 = .bool false := hR 3 (by decide) (by decide)
    have e12 : u 12 = .bool false := hR 12 (by decide) (by decide)
    simp only [putAll, fillL]
    rw [e3, e12]
    have hall := hA.trans (hbw.mono (by simp))
    have pB3 := blk_later hbw pB
    clear hR hAp e3 e12 z0 z1 z2 hcellt hcellt0 pB
    go_wp2_with fail
    go_loopw [6] (fun i wr => ∃ k : Nat, k ≤ t.length ∧ i = .int .i64 k ∧ Hid ((List.range k).all (rowS r t) = true) ∧ Below w.heap.size w wr ∧ wr.heap[w.heap.size]? = some (.cells #[.slice a1 r.p.length k1, .slice a2 r.s.length k2, .slice a3 r.x.length k3] 38 (0, 0))) (fun i _ => t.length - (intOf i).toNat)
    case atStart => exact ⟨0, Nat.zero_le _, rfl, Lib.hid rfl, hall, pB3⟩
    case round =>
      clear pB3 hall hA hbw
      obtain ⟨k, hk, rfl, HA, hB, pBw⟩ := hrel
      by_cases hltk : k < t.length
      · obtain ⟨wo, rfl⟩ : ∃ wo : World, wo = wr := ⟨_, rfl⟩
        have hd : decide ((k : Int) < (t.length : Int)) = true := by simp; omega
        have hwk := hlen.out k hltk
        go_wp2
        go_loopw [7] (fun i wr => ∃ l : Nat, l ≤ wid t ∧ i = .int .i64 l ∧ Hid ((List.range l).all (fun j => runE r k j == ent t k j) = true) ∧ Below w.heap.size w wr ∧ wr.heap[w.heap.size]? = some (.cells #[.slice a1 r.p.length k1, .slice a2 r.s.length k2, .slice a3 r.x.length k3] 38 (0, 0))) (fun i _ => wid t - (intOf i).toNat)
        case atStart => exact ⟨0, Nat.zero_le _, rfl, Lib.hid rfl, hB, pBw⟩
        case round =>
          clear pBw hB
          obtain ⟨l, hl, rfl, HB, hB, pBw⟩ := hrel
          have hlbw := (Array.getElem?_eq_some_iff.1 pBw).1
          obtain ⟨⟨z0, z1, z2⟩, -⟩ := blk3 pBw
          obtain ⟨_, _, a6, c6, e1, hb6, hcell6, hi6⟩ := (ht0.below hB).at k hltk; cases e1; rw [hwk] at hcell6
          by_cases hltl : l < wid t
          · have hlk : l < t[k].length := by omega
            have hd2 : decide ((l : Int) < (wid t : Int)) = true := by simp; omega
            have hent : Hid (t[k][l] = ent t k l) := Lib.hid (ent_eq t k l hltk hlk)
            skip
            go_wp2_with fail
            refine (c_l8Run _ r k l _ (h.below hB) (hok.out k l hltk hltl)).mono ?_
            rintro e w2 ⟨v2, rfl, hv2, hb2⟩
            obtain ⟨ad2, c2, rfl, -, -⟩ := hv2.ints.out
            replace pBw := blk_later hb2 pBw
            replace hB := bstep hB hb2
            clear z0 z1 z2 hv2
            clear hcell6; obtain ⟨_, _, a7, c7, e1, hb7, hcell7, hi7⟩ := (ht0.below hB).at k hltk; cases e1; obtain ⟨b8, o8, rfl, hb8, hcell8⟩ := hi7.at l hlk; rw [hent.out] at hcell8
            cases hx : (runE r k l != ent t k l)
            · have hF := Lib.hid (show (List.range (l + 1)).all (fun j => runE r k j == ent t k j) = true by rw [range_all_succ, HB.out, show (runE r k l == ent t k l) = true by simpa using hx]; rfl)
              go_wp2
              go_roundw
              case rel => exact ⟨l + 1, by omega, by go_num, hF, hB, pBw⟩
              case measure => simp [intOf]; omega
            · have hF := Lib.hid (show (List.range t.length).all (rowS r t) = false from range_all_false hltk (by unfold rowS; exact range_all_false hltl (by simpa using hx)))
              go_wp2
              go_ret2
              exact ⟨by rw [hF2.out, hF.out]; rfl, hB⟩
          · obtain rfl : l = wid t := by omega
            have hF := Lib.hid (show (List.range (k + 1)).all (rowS r t) = true by rw [range_all_succ, HA.out]; exact HB.out)
            go_wp2
            go_roundw
            case rel => exact ⟨k + 1, by omega, by go_num, hF, hB, pBw⟩
            case measure => simp [intOf]; omega
      · obtain rfl : k = t.length := by omega
        go_wp2
        go_ret2
        exact ⟨by rw [hF2.out, HA.out]; rfl, hB⟩
set_option maxRecDepth 100000 in
set_option maxHeartbeats 4000000 in
theorem c_impl_TalkSolves (v u : Value) (r : TalkD) (t : List (List Int)) (w : World) (h : TalkR w v r) (ht0 : Rows2 w u t) :
    Calls Try.prog 40 #[v, u] w fun e w' => e = .returned (.tuple #[.bool (solvesT r t), .bool (okTS r t)]) ∧ Below w.heap.size w w' := by
  obtain ⟨v1, v2, v3, rfl, hp, hs, hx⟩ := id h
  obtain ⟨a1, k1, rfl, l1, -⟩ := hp.out
  obtain ⟨a2, k2, rfl, l2⟩ := hs.out
  obtain ⟨a3, k3, rfl, l3⟩ := hx.out
  have hA := (Below.refl w.heap.size w).alloc (Nat.le_refl _) (.cells #[.slice a1 r.p.length k1, .slice a2 r.s.length k2, .slice a3 r.x.length k3] 38)
  have pB : (w.alloc (.cells #[.slice a1 r.p.length k1, .slice a2 r.s.length k2, .slice a3 r.x.length k3] 38)).heap[w.heap.size]? = some (.cells #[.slice a1 r.p.length k1, .slice a2 r.s.length k2, .slice a3 r.x.length k3] 38 (0, 0)) := heap_alloc_at rfl
  obtain ⟨adt, capt, rfl, hlt⟩ := ht0.out
  have hlb : w.heap.size < (w.alloc (.cells #[.slice a1 r.p.length k1, .slice a2 r.s.length k2, .slice a3 r.x.length k3] 38)).heap.size := by simp
  obtain ⟨⟨z0, z1, z2⟩, -⟩ := blk3 pB
  cases ht : taskB t
  · have hF : okTS r t = false ∧ solvesT r t = false := by simp [okTS, solvesT, ht]
    rw [hF.1, hF.2]
    clear hF
    replace ht := Lib.hid ht
    go_enter Try.func40, Try.ntmps40
    go_wp2_with fail
    refine wp_region_rk (by kernel_rfl) [none, none, none, none, none, none, none, none, none, none, none, none, some 0, some 1, some 2, some 3, some 4, some 5, some 6, some 7, some 8, some 9, some 10, some 11, some 12, some 13] 13 (by kernel_rfl) (by kernel_rfl) (by kernel_rfl) _ rfl w.heap.size [rkV (.slice adt t.length capt), rkV (.bool false), rkV (.bool true), rkV (.bool true), rkT, rkT, rkT, rkT, rkT, rkT, rkT, rkT, rkT] _ rfl (by kernel_rfl) (by simp) ?_ ?_
    · intro i o ho hi u g ww hbw hd
      have hall : Below w.heap.size w ww := hA.trans (hbw.mono (by simp))
      have hlow : w.heap.size ≤ ww.heap.size := hall.size
      obtain ⟨hcl, hfr⟩ := bcell hbw
      have y_z0 := (hcl _ _ (by omega)).trans z0
      have y_z1 := (hcl _ _ (by omega)).trans z1
      have y_z2 := (hcl _ _ (by omega)).trans z2
      clear hcl hfr
      rcases i with _ | _ | _ | _ | _ | _ | _ | _ | _ | _ | _ | _ | _ | _ | i
      all_goals try obtain rfl := Option.some.inj ho
      all_goals try simp only [putAll, fillL]
      · go_wp2
        exact ⟨_, rfl, kept0 (Below.refl _ _), rfl⟩
      · have e0 : u 0 = .slice adt t.length capt := hd 0 (by decide)
        rw [e0]
        go_wp2_with fail
        refine (c_IsTask_is _ t false _ (ht0.below hall) ht.out).mono ?_
        rintro e wn ⟨rfl, hbn⟩
        go_wp2
        exact ⟨_, by simp only [putAll, fillL, e0] <;> rfl, kept0 hbn, rfl⟩
      · have e1 : u 1 = .bool false := hd 1 (by decide)
        rw [e1]
        go_wp2
        exact ⟨_, by simp only [putAll, fillL, e1] <;> rfl, kept0 (Below.refl _ _), rfl⟩
      · have e2 : u 2 = .bool true := hd 2 (by decide)
        rw [e2]
        go_wp2
        exact ⟨_, by simp only [putAll, fillL, e2] <;> rfl, kept0 (Below.refl _ _), rfl⟩
      · have e3 : u 3 = .bool true := hd 3 (by decide)
        rw [e3]
        go_wp2
        exact ⟨undef, by simp only [putAll, fillL, e3] <;> rfl, kept0 (Below.refl _ _), trivial⟩
      · have e3 : u 3 = .bool true := hd 3 (by decide)
        rw [e3]
        go_wp2
        exact ⟨undef, by simp only [putAll, fillL, e3] <;> rfl, kept0 (Below.refl _ _), trivial⟩
      · have e3 : u 3 = .bool true := hd 3 (by decide)
        rw [e3]
        go_wp2
        exact ⟨undef, by simp only [putAll, fillL, e3] <;> rfl, kept0 (Below.refl _ _), trivial⟩
      · have e3 : u 3 = .bool true := hd 3 (by decide)
        rw [e3]
        go_wp2
        exact ⟨undef, by simp only [putAll, fillL, e3] <;> rfl, kept0 (Below.refl _ _), trivial⟩
      · have e3 : u 3 = .bool true := hd 3 (by decide)
        rw [e3]
        go_wp2
        exact ⟨undef, by simp only [putAll, fillL, e3] <;> rfl, kept0 (Below.refl _ _), trivial⟩
      · have e3 : u 3 = .bool true := hd 3 (by decide)
        rw [e3]
        go_wp2
        exact ⟨undef, by simp only [putAll, fillL, e3] <;> rfl, kept0 (Below.refl _ _), trivial⟩
      · have e3 : u 3 = .bool true := hd 3 (by decide)
        rw [e3]
        go_wp2
        exact ⟨undef, by simp only [putAll, fillL, e3] <;> rfl, kept0 (Below.refl _ _), trivial⟩
      · have e3 : u 3 = .bool true := hd 3 (by decide)
        rw [e3]
        go_wp2
        exact ⟨undef, by simp only [putAll, fillL, e3] <;> rfl, kept0 (Below.refl _ _), trivial⟩
      · have e3 : u 3 = .bool true := hd 3 (by decide)
        rw [e3]
        go_wp2
        exact ⟨undef, by simp only [putAll, fillL, e3] <;> rfl, kept0 (Below.refl _ _), trivial⟩
      · exact absurd rfl hi
      · simp at ho
    · intro u g' w3 hbw hR hAp
      have e3 : u 3 = .bool true := hR 3 (by decide) (by decide)
      simp only [putAll, fillL]
      rw [e3]
      have hall := hA.trans (hbw.mono (by simp))
      clear hR hAp e3
      go_wp2
      go_ret2
      exact ⟨rfl, hall⟩
  obtain ⟨ht1, ht2, hlen, -⟩ := taskB_yes ht
  obtain ⟨blt, offt, a0, c0, rfl, hbt0, hcellt0, hit0⟩ := ht0.at0 (by omega)
  have hbt : blt < (w.alloc (.cells #[.slice a1 r.p.length k1, .slice a2 r.s.length k2, .slice a3 r.x.length k3] 38)).heap.size := by simp; omega
  have hcellt := ((bcell hA).1 _ _ hbt0).trans hcellt0
  cases hv : validB r t.length (wid t)
  · have hF : okTS r t = false ∧ solvesT r t = false := by simp [okTS, solvesT, hv]
    rw [hF.1, hF.2]
    clear hF
    replace ht := Lib.hid ht
    replace hv := Lib.hid hv
    replace hlen := Lib.hid hlen
    go_enter Try.func40, Try.ntmps40
    go_wp2_with fail
    refine wp_region_rk (by kernel_rfl) [none, none, none, none, none, none, none, none, none, none, none, none, some 0, some 1, some 2, some 3, some 4, some 5, some 6, some 7, some 8, some 9, some 10, some 11, some 12, some 13] 13 (by kernel_rfl) (by kernel_rfl) (by kernel_rfl) _ rfl w.heap.size [rkV (.slice (some ⟨blt, offt, none⟩) t.length capt), rkV (.bool true), rkV (.bool false), rkV (.bool false), rkV (.agg #[.slice a1 r.p.length k1, .slice a2 r.s.length k2, .slice a3 r.x.length k3]), rkV (.slice (some ⟨blt, offt, none⟩) t.length capt), rkV (.int .i64 (t.length : Int)), rkV (.slice (some ⟨blt, offt, none⟩) t.length capt), rkV (.pointer (some ⟨blt, offt, none⟩)), rkV (.slice a0 (wid t) c0), rkV (.int .i64 (wid t : Int)), rkV (.bool false), rkV (.bool true)] _ rfl (by kernel_rfl) (by simp) ?_ ?_
    · intro i o ho hi u g ww hbw hd
      have hall : Below w.heap.size w ww := hA.trans (hbw.mono (by simp))
      have hlow : w.heap.size ≤ ww.heap.size := hall.size
      obtain ⟨hcl, hfr⟩ := bcell hbw
      have y_z0 := (hcl _ _ (by omega)).trans z0
      have y_z1 := (hcl _ _ (by omega)).trans z1
      have y_z2 := (hcl _ _ (by omega)).trans z2
      have y_hcellt := (hcl _ _ (by omega)).trans hcellt
      clear hcl hfr
      rcases i with _ | _ | _ | _ | _ | _ | _ | _ | _ | _ | _ | _ | _ | _ | i
      all_goals try obtain rfl := Option.some.inj ho
      all_goals try simp only [putAll, fillL]
      · go_wp2
        exact ⟨_, rfl, kept0 (Below.refl _ _), rfl⟩
      · have e0 : u 0 = .slice (some ⟨blt, offt, none⟩) t.length capt := hd 0 (by decide)
        rw [e0]
        go_wp2_with fail
        refine (c_IsTask_is _ t true _ (ht0.below hall) ht.out).mono ?_
        rintro e wn ⟨rfl, hbn⟩
        go_wp2
        exact ⟨_, by simp only [putAll, fillL, e0] <;> rfl, kept0 hbn, rfl⟩
      · have e1 : u 1 = .bool true := hd 1 (by decide)
        rw [e1]
        go_wp2
        exact ⟨_, by simp only [putAll, fillL, e1] <;> rfl, kept0 (Below.refl _ _), rfl⟩
      · have e2 : u 2 = .bool false := hd 2 (by decide)
        rw [e2]
        go_wp2
        exact ⟨_, by simp only [putAll, fillL, e2] <;> rfl, kept0 (Below.refl _ _), rfl⟩
      · have e3 : u 3 = .bool false := hd 3 (by decide)
        rw [e3]
        go_wp2
        exact ⟨_, by simp only [putAll, fillL, e3] <;> rfl, kept0 (Below.refl _ _), rfl⟩
      · have e3 : u 3 = .bool false := hd 3 (by decide)
        rw [e3]
        go_wp2
        exact ⟨_, by simp only [putAll, fillL, e3] <;> rfl, kept0 (Below.refl _ _), rfl⟩
      · have e3 : u 3 = .bool false := hd 3 (by decide)
        rw [e3]
        have e5 : u 5 = .slice (some ⟨blt, offt, none⟩) t.length capt := hd 5 (by decide)
        rw [e5]
        go_wp2
        exact ⟨_, by simp only [putAll, fillL, e3, e5] <;> rfl, kept0 (Below.refl _ _), rfl⟩
      · have e3 : u 3 = .bool false := hd 3 (by decide)
        rw [e3]
        go_wp2
        exact ⟨_, by simp only [putAll, fillL, e3] <;> rfl, kept0 (Below.refl _ _), rfl⟩
      · have e3 : u 3 = .bool false := hd 3 (by decide)
        rw [e3]
        have e7 : u 7 = .slice (some ⟨blt, offt, none⟩) t.length capt := hd 7 (by decide)
        rw [e7]
        go_wp2
        exact ⟨_, by simp only [putAll, fillL, e3, e7] <;> rfl, kept0 (Below.refl _ _), rfl⟩
      · have e3 : u 3 = .bool false := hd 3 (by decide)
        rw [e3]
        have e8 : u 8 = .pointer (some ⟨blt, offt, none⟩) := hd 8 (by decide)
        rw [e8]
        go_wp2
        exact ⟨_, by simp only [putAll, fillL, e3, e8] <;> rfl, kept0 (Below.refl _ _), rfl⟩
      · have e3 : u 3 = .bool false := hd 3 (by decide)
        rw [e3]
        have e9 : u 9 = .slice a0 (wid t) c0 := hd 9 (by decide)
        rw [e9]
        go_wp2
        exact ⟨_, by simp only [putAll, fillL, e3, e9] <;> rfl, kept0 (Below.refl _ _), rfl⟩
      · have e3 : u 3 = .bool false := hd 3 (by decide)
        rw [e3]
        have e4 : u 4 = .agg #[.slice a1 r.p.length k1, .slice a2 r.s.length k2, .slice a3 r.x.length k3] := hd 4 (by decide)
        rw [e4]
        have e6 : u 6 = .int .i64 (t.length : Int) := hd 6 (by decide)
        rw [e6]
        have e10 : u 10 = .int .i64 (wid t : Int) := hd 10 (by decide)
        rw [e10]
        go_wp2_with fail
        refine (c_isTalk_is _ r t.length (wid t) false _ (h.below hall) hv.out).mono ?_
        rintro e wn ⟨rfl, hbn⟩
        go_wp2
        exact ⟨_, by simp only [putAll, fillL, e3, e4, e6, e10] <;> rfl, kept0 hbn, rfl⟩
      · have e3 : u 3 = .bool false := hd 3 (by decide)
        rw [e3]
        have e11 : u 11 = .bool false := hd 11 (by decide)
        rw [e11]
        go_wp2
        exact ⟨_, by simp only [putAll, fillL, e3, e11] <;> rfl, kept0 (Below.refl _ _), rfl⟩
      · exact absurd rfl hi
      · simp at ho
    · intro u g' w3 hbw hR hAp
      have e3 : u 3 = .bool false := hR 3 (by decide) (by decide)
      have e12 : u 12 = .bool true := hR 12 (by decide) (by decide)
      simp only [putAll, fillL]
      rw [e3, e12]
      have hall := hA.trans (hbw.mono (by simp))
      clear hR hAp e3 e12
      go_wp2
      go_ret2
      exact ⟨rfl, hall⟩
  have hF : okTS r t = true ∧ solvesT r t = (List.range t.length).all (rowS r t) := by simp [okTS, solvesT, ht, hv]
  obtain ⟨hF1, hF2⟩ := hF
  rw [hF1]
  clear hF1
  replace hF2 := Lib.hid hF2
  have hok : ∀ i j, i < t.length → j < wid t → RunOk r i j := fun i j hi hj => runOk hv (by omega) (by omega)
  replace hok := Lib.hid hok
  replace ht := Lib.hid ht
  replace hv := Lib.hid hv
  replace hlen := Lib.hid hlen
  go_enter Try.func40, Try.ntmps40
  go_wp2_with fail
  refine wp_region_rk (by kernel_rfl) [none, none, none, none, none, none, none, none, none, none, none, none, some 0, some 1, some 2, some 3, some 4, some 5, some 6, some 7, some 8, some 9, some 10, some 11, some 12, some 13] 13 (by kernel_rfl) (by kernel_rfl) (by kernel_rfl) _ rfl w.heap.size [rkV (.slice (some ⟨blt, offt, none⟩) t.length capt), rkV (.bool true), rkV (.bool false), rkV (.bool false), rkV (.agg #[.slice a1 r.p.length k1, .slice a2 r.s.length k2, .slice a3 r.x.length k3]), rkV (.slice (some ⟨blt, offt, none⟩) t.length capt), rkV (.int .i64 (t.length : Int)), rkV (.slice (some ⟨blt, offt, none⟩) t.length capt), rkV (.pointer (some ⟨blt, offt, none⟩)), rkV (.slice a0 (wid t) c0), rkV (.int .i64 (wid t : Int)), rkV (.bool true), rkV (.bool false)] _ rfl (by kernel_rfl) (by simp) ?_ ?_
  · intro i o ho hi u g ww hbw hd
    have hall : Below w.heap.size w ww := hA.trans (hbw.mono (by simp))
    have hlow : w.heap.size ≤ ww.heap.size := hall.size
    obtain ⟨hcl, hfr⟩ := bcell hbw
    have y_z0 := (hcl _ _ (by omega)).trans z0
    have y_z1 := (hcl _ _ (by omega)).trans z1
    have y_z2 := (hcl _ _ (by omega)).trans z2
    have y_hcellt := (hcl _ _ (by omega)).trans hcellt
    clear hcl hfr
    rcases i with _ | _ | _ | _ | _ | _ | _ | _ | _ | _ | _ | _ | _ | _ | i
    all_goals try obtain rfl := Option.some.inj ho
    all_goals try simp only [putAll, fillL]
    · go_wp2
      exact ⟨_, rfl, kept0 (Below.refl _ _), rfl⟩
    · have e0 : u 0 = .slice (some ⟨blt, offt, none⟩) t.length capt := hd 0 (by decide)
      rw [e0]
      go_wp2_with fail
      refine (c_IsTask_is _ t true _ (ht0.below hall) ht.out).mono ?_
      rintro e wn ⟨rfl, hbn⟩
      go_wp2
      exact ⟨_, by simp only [putAll, fillL, e0] <;> rfl, kept0 hbn, rfl⟩
    · have e1 : u 1 = .bool true := hd 1 (by decide)
      rw [e1]
      go_wp2
      exact ⟨_, by simp only [putAll, fillL, e1] <;> rfl, kept0 (Below.refl _ _), rfl⟩
    · have e2 : u 2 = .bool false := hd 2 (by decide)
      rw [e2]
      go_wp2
      exact ⟨_, by simp only [putAll, fillL, e2] <;> rfl, kept0 (Below.refl _ _), rfl⟩
    · have e3 : u 3 = .bool false := hd 3 (by decide)
      rw [e3]
      go_wp2
      exact ⟨_, by simp only [putAll, fillL, e3] <;> rfl, kept0 (Below.refl _ _), rfl⟩
    · have e3 : u 3 = .bool false := hd 3 (by decide)
      rw [e3]
      go_wp2
      exact ⟨_, by simp only [putAll, fillL, e3] <;> rfl, kept0 (Below.refl _ _), rfl⟩
    · have e3 : u 3 = .bool false := hd 3 (by decide)
      rw [e3]
      have e5 : u 5 = .slice (some ⟨blt, offt, none⟩) t.length capt := hd 5 (by decide)
      rw [e5]
      go_wp2
      exact ⟨_, by simp only [putAll, fillL, e3, e5] <;> rfl, kept0 (Below.refl _ _), rfl⟩
    · have e3 : u 3 = .bool false := hd 3 (by decide)
      rw [e3]
      go_wp2
      exact ⟨_, by simp only [putAll, fillL, e3] <;> rfl, kept0 (Below.refl _ _), rfl⟩
    · have e3 : u 3 = .bool false := hd 3 (by decide)
      rw [e3]
      have e7 : u 7 = .slice (some ⟨blt, offt, none⟩) t.length capt := hd 7 (by decide)
      rw [e7]
      go_wp2
      exact ⟨_, by simp only [putAll, fillL, e3, e7] <;> rfl, kept0 (Below.refl _ _), rfl⟩
    · have e3 : u 3 = .bool false := hd 3 (by decide)
      rw [e3]
      have e8 : u 8 = .pointer (some ⟨blt, offt, none⟩) := hd 8 (by decide)
      rw [e8]
      go_wp2
      exact ⟨_, by simp only [putAll, fillL, e3, e8] <;> rfl, kept0 (Below.refl _ _), rfl⟩
    · have e3 : u 3 = .bool false := hd 3 (by decide)
      rw [e3]
      have e9 : u 9 = .slice a0 (wid t) c0 := hd 9 (by decide)
      rw [e9]
      go_wp2
      exact ⟨_, by simp only [putAll, fillL, e3, e9] <;> rfl, kept0 (Below.refl _ _), rfl⟩
    · have e3 : u 3 = .bool false := hd 3 (by decide)
      rw [e3]
      have e4 : u 4 = .agg #[.slice a1 r.p.length k1, .slice a2 r.s.length k2, .slice a3 r.x.length k3] := hd 4 (by decide)
      rw [e4]
      have e6 : u 6 = .int .i64 (t.length : Int) := hd 6 (by decide)
      rw [e6]
      have e10 : u 10 = .int .i64 (wid t : Int) := hd 10 (by decide)
      rw [e10]
      go_wp2_with fail
      refine (c_isTalk_is _ r t.length (wid t) true _ (h.below hall) hv.out).mono ?_
      rintro e wn ⟨rfl, hbn⟩
      go_wp2
      exact ⟨_, by simp only [putAll, fillL, e3, e4, e6, e10] <;> rfl, kept0 hbn, rfl⟩
    · have e3 : u 3 = .bool false := hd 3 (by decide)
      rw [e3]
      have e11 : u 11 = .bool true := hd 11 (by decide)
      rw [e11]
      go_wp2
      exact ⟨_, by simp only [putAll, fillL, e3, e11] <;> rfl, kept0 (Below.refl _ _), rfl⟩
    · exact absurd rfl hi
    · simp at ho
  · intro u g' w3 hbw hR hAp
    have e3 : u 3 = .bool false := hR 3 (by decide) (by decide)
    have e12 : u 12 = .bool false := hR 12 (by decide) (by decide)
    simp only [putAll, fillL]
    rw [e3, e12]
    have hall := hA.trans (hbw.mono (by simp))
    have pB3 := blk_later hbw pB
    clear hR hAp e3 e12 z0 z1 z2 hcellt hcellt0 pB
    go_wp2_with fail
    go_loopw [28] (fun i wr => ∃ k : Nat, k ≤ t.length ∧ i = .int .i64 k ∧ Hid ((List.range k).all (rowS r t) = true) ∧ Below w.heap.size w wr ∧ wr.heap[w.heap.size]? = some (.cells #[.slice a1 r.p.length k1, .slice a2 r.s.length k2, .slice a3 r.x.length k3] 38 (0, 0))) (fun i _ => t.length - (intOf i).toNat)
    case atStart => exact ⟨0, Nat.zero_le _, rfl, Lib.hid rfl, hall, pB3⟩
    case round =>
      clear pB3 hall hA hbw
      obtain ⟨k, hk, rfl, HA, hB, pBw⟩ := hrel
      by_cases hltk : k < t.length
      · obtain ⟨wo, rfl⟩ : ∃ wo : World, wo = wr := ⟨_, rfl⟩
        have hd : decide ((k : Int) < (t.length : Int)) = true := by simp; omega
        have hwk := hlen.out k hltk
        obtain ⟨_, _, a6, c6, e1, hb6, hcell60, hi60⟩ := ht0.at k hltk; cases e1; rw [hwk] at hcell60 hi60; have hcell6 := ((bcell hB).1 _ _ hb6).trans hcell60; have hb66 : blt < wo.heap.size := Nat.lt_of_lt_of_le hb6 hB.size; go_wp2; clear hcell6
        go_loopw [35] (fun i wr => ∃ l : Nat, l ≤ wid t ∧ i = .int .i64 l ∧ Hid ((List.range l).all (fun j => runE r k j == ent t k j) = true) ∧ Below w.heap.size w wr ∧ wr.heap[w.heap.size]? = some (.cells #[.slice a1 r.p.length k1, .slice a2 r.s.length k2, .slice a3 r.x.length k3] 38 (0, 0))) (fun i _ => wid t - (intOf i).toNat)
        case atStart => exact ⟨0, Nat.zero_le _, rfl, Lib.hid rfl, hB, pBw⟩
        case round =>
          clear pBw hB
          obtain ⟨l, hl, rfl, HB, hB, pBw⟩ := hrel
          have hlbw := (Array.getElem?_eq_some_iff.1 pBw).1
          obtain ⟨⟨z0, z1, z2⟩, -⟩ := blk3 pBw
          skip
          by_cases hltl : l < wid t
          · have hlk : l < t[k].length := by omega
            have hd2 : decide ((l : Int) < (wid t : Int)) = true := by simp; omega
            have hent : Hid (t[k][l] = ent t k l) := Lib.hid (ent_eq t k l hltk hlk)
            obtain ⟨b8, o8, e8, hb8, hcell8⟩ := (hi60.below hB).at l hlk; cases e8; rw [hent.out] at hcell8
            go_wp2_with fail
            refine (c_run _ r k l _ (h.below hB) (hok.out k l hltk hltl)).mono ?_
            rintro e w2 ⟨v2, rfl, hv2, hb2⟩
            obtain ⟨ad2, c2, rfl, -, -⟩ := hv2.ints.out
            replace pBw := blk_later hb2 pBw
            replace hB := bstep hB hb2
            clear z0 z1 z2 hv2
            skip
            cases hx : (runE r k l != ent t k l)
            · have hF := Lib.hid (show (List.range (l + 1)).all (fun j => runE r k j == ent t k j) = true by rw [range_all_succ, HB.out, show (runE r k l == ent t k l) = true by simpa using hx]; rfl)
              go_wp2
              go_roundw
              case rel => exact ⟨l + 1, by omega, by go_num, hF, hB, pBw⟩
              case measure => simp [intOf]; omega
            · have hF := Lib.hid (show (List.range t.length).all (rowS r t) = false from range_all_false hltk (by unfold rowS; exact range_all_false hltl (by simpa using hx)))
              go_wp2
              go_ret2
              exact ⟨by rw [hF2.out, hF.out]; rfl, hB⟩
          · obtain rfl : l = wid t := by omega
            have hF := Lib.hid (show (List.range (k + 1)).all (rowS r t) = true by rw [range_all_succ, HA.out]; exact HB.out)
            go_wp2
            go_roundw
            case rel => exact ⟨k + 1, by omega, by go_num, hF, hB, pBw⟩
            case measure => simp [intOf]; omega
      · obtain rfl : k = t.length := by omega
        go_wp2
        go_ret2
        exact ⟨by rw [hF2.out, HA.out]; rfl, hB⟩
end Go.Proofs.Ytpieaeokbblflaa
