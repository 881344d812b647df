/- Which contexts keep an assignment, and which it picks from: the reference's side; conditions: none. -/
import Derived.Test.YtikfddppjalfdaaSceneIs
import Derived.Test.YtikfddppjalfdaaRk
namespace Go.Proofs.Ytikfddppjalfdaa
open Go.RowKit

def keptAt (s : SceneD) (asg : List Int) (i : Nat) : Bool := onesE (s.c.getD i []) asg % 2 == s.s.getD i 0
def keptL (s : SceneD) (asg : List Int) : List Int := placesL (keptAt s asg) s.c.length
def solvesB (s : SceneD) (asg : List Int) : Bool := ((keptL s asg).length : Int) == (s.c.length : Int)
def pickAt (s : SceneD) (asg : List Int) (i : Nat) : Bool := onesE (s.c.getD i []) asg == 1
def picksB (s : SceneD) (asg : List Int) : Bool := (List.range s.c.length).all (pickAt s asg)

theorem risB_mem {lo hi : Int} {l : List Int} (h : risB lo hi l = true) : ∀ e ∈ l, lo ≤ e ∧ e ≤ hi := by
  intro e he
  obtain ⟨i, hi', rfl⟩ := List.getElem_of_mem he
  exact ⟨(risB_get h i hi').1, (risB_get h i hi').2.1⟩
theorem scene_n {s : SceneD} (h : sceneB s = true) : ∃ n : Nat, s.n = (n : Int) ∧ n ≤ 12 := by
  unfold sceneB at h
  simp only [Bool.and_eq_true] at h
  have := inB_iff.1 h.1
  exact ⟨s.n.toNat, by omega, by omega⟩
theorem scene_len {s : SceneD} (h : sceneB s = true) : s.c.length ≤ 10 ∧ s.s.length = s.c.length ∧ ∀ q ∈ s.s, 0 ≤ q ∧ q ≤ 1 := by
  unfold sceneB at h
  simp only [Bool.and_eq_true, decide_eq_true_eq] at h
  have hb := h.2.2.1
  unfold bitsB at hb
  simp only [Bool.and_eq_true, beq_iff_eq, List.all_eq_true, inB_iff] at hb
  exact ⟨h.2.1, by omega, hb.2⟩
theorem scene_ctx {s : SceneD} (h : sceneB s = true) (i : Nat) (hi : i < s.c.length) : 0 < s.c[i].length ∧ risB 0 (s.n - 1) s.c[i] = true := by
  unfold sceneB at h
  simp only [Bool.and_eq_true, List.all_eq_true] at h
  have := h.2.2.2 _ (List.getElem_mem hi)
  unfold ctxB at this
  simpa using this
theorem risB_len {n : Nat} {l : List Int} (h : risB 0 ((n : Int) - 1) l = true) : l.length ≤ n := by
  have ge : ∀ i (hi : i < l.length), (i : Int) ≤ l[i] := by
    intro i
    induction i with
    | zero => intro hi; have := (risB_get h 0 hi).1; simpa using this
    | succ i ih =>
      intro hi
      have h1 := ih (by omega)
      have h2 := risB_lt h (i + 1) hi i (by omega)
      omega
  rcases Nat.eq_zero_or_pos l.length with h0 | h0
  · omega
  · have h1 := ge (l.length - 1) (by omega)
    have h2 := (risB_get h (l.length - 1) (by omega)).2.1
    omega
theorem onesV_snoc (c : List Int) (e : Int) (asg : List Int) : onesE (c ++ [e]) asg = onesE c asg + asg.getD e.toNat 0 := by simp [onesE]
theorem onesV_bound (c asg : List Int) (h : ∀ x ∈ asg, 0 ≤ x ∧ x ≤ 1) : 0 ≤ onesE c asg ∧ onesE c asg ≤ c.length := by
  induction c with
  | nil => simp [onesE]
  | cons e c ih =>
    have hx : 0 ≤ asg.getD e.toNat 0 ∧ asg.getD e.toNat 0 ≤ 1 := by
      by_cases hl : e.toNat < asg.length
      · rw [List.getD, List.getElem?_eq_getElem hl]; exact h _ (List.getElem_mem hl)
      · rw [List.getD, List.getElem?_eq_none (by omega)]; simp
    simp only [onesE, List.map_cons, List.sum_cons, List.length_cons] at ih ⊢
    omega

theorem c_l7Ones (v u : Value) (c asg : List Int) (w : World) (h : Ints w v c) (g : Ints w u asg) (h0 : ∀ e ∈ c, 0 ≤ e ∧ e < asg.length) (h1 : ∀ x ∈ asg, 0 ≤ x ∧ x ≤ 1) (hc : c.length ≤ 1000000) :
    Calls Try.prog 107 #[v, u] w fun e w' => e = .returned (.int .i64 (onesE c asg)) ∧ w = w' := by
  obtain ⟨ad, cap, rfl, hl, -⟩ := h.out
  obtain ⟨ad2, cap2, rfl, hl2, -⟩ := g.out
  replace h0 := Lib.hid h0
  replace h1 := Lib.hid h1
  go_enter Try.func107, Try.ntmps107
  go_wp2
  go_loop [5, 6] (fun m i => ∃ k : Nat, k ≤ c.length ∧ i = .int .i64 k ∧ m = .int .i64 (onesE (c.take k) asg)) (fun _ i => c.length - (intOf i).toNat)
  case atStart => exact ⟨0, Nat.zero_le _, rfl, by simp [onesE]⟩
  case round =>
    obtain ⟨k, hk, rfl, rfl⟩ := hrel
    by_cases hlt : k < c.length
    · obtain ⟨bl, off, rfl, hb, hcell⟩ := h.at k hlt
      obtain ⟨e0, e1⟩ := h0.out c[k] (List.getElem_mem hlt)
      obtain ⟨j, hj⟩ := Int.eq_ofNat_of_zero_le e0
      have hjl : j < asg.length := by omega
      obtain ⟨bl2, off2, rfl, hb2, hcell2⟩ := g.at j hjl
      obtain ⟨b0, b1⟩ := onesV_bound (c.take k) asg h1.out
      have hle := List.length_take_le k c
      obtain ⟨x0, x1⟩ := h1.out asg[j] (List.getElem_mem hjl)
      have hF : Hid (onesE (c.take (k + 1)) asg = onesE (c.take k) asg + asg[j]) := Lib.hid (by
        rw [List.take_succ_eq_append_getElem hlt, onesV_snoc, hj]; simp [List.getD, hjl])
      rw [hj] at hcell
      clear e0 e1 hj
      go_wp2
      go_round
      case rel => exact ⟨k + 1, by omega, by go_num, by rw [hF.out]⟩
      case measure => simp [intOf]; omega
    · obtain rfl : k = c.length := by omega
      go_wp2
      go_ret
      exact ⟨by simp, rfl⟩

/-- the facts on a scene's contexts, at an assignment -/
theorem kept_ctx {s : SceneD} {asg : List Int} (h : sceneB s = true) (ha : (asg.length : Int) = s.n) (k : Nat) (hk : k < s.c.length) : (∀ e ∈ s.c[k], 0 ≤ e ∧ e < asg.length) ∧ s.c[k].length ≤ 12 := by
  obtain ⟨n, e, hn⟩ := scene_n h
  have h1 := (scene_ctx h k hk).2
  refine ⟨fun q hq => ?_, ?_⟩
  · have := risB_mem h1 q hq
    omega
  · rw [e] at h1
    have := risB_len h1
    omega

set_option maxRecDepth 100000 in
set_option maxHeartbeats 1000000 in
theorem c_l7Kept (v u : Value) (s : SceneD) (asg : List Int) (w : World) (h : SceneR w v s) (g : Ints w u asg) (hs : sceneB s = true) (ha : (asg.length : Int) = s.n) (h1 : ∀ x ∈ asg, 0 ≤ x ∧ x ≤ 1) :
    Calls Try.prog 95 #[v, u] w fun e w' => ∃ v', e = .returned v' ∧ OwnI w' w.heap.size v' (keptL s asg) ∧ Below w.heap.size w w' := by
  obtain ⟨v1, v2, rfl, hc, hsu⟩ := h
  obtain ⟨a1, k1, rfl, l1⟩ := hc.out
  obtain ⟨a2, k2, rfl, l2, -⟩ := hsu.out
  obtain ⟨ad2, cap2, rfl, hl2, -⟩ := g.out
  obtain ⟨n10, hsl, -⟩ := scene_len hs
  replace hsl := Lib.hid hsl
  have hX := kept_ctx hs ha
  replace hX := Lib.hid hX
  replace hs := Lib.hid hs
  replace ha := Lib.hid ha
  replace h1 := Lib.hid h1
  have hA := (Below.refl w.heap.size w).alloc (Nat.le_refl _) (.cells #[.int .i64 s.n, .slice a1 s.c.length k1, .slice a2 s.s.length k2] 50)
  go_enter Try.func95, Try.ntmps95
  go_wp2_with fail
  go_loopw [5, 6] (fun v j wr => ∃ k : Nat, k ≤ s.c.length ∧ j = .int .i64 k ∧ OwnI wr (w.heap.size + 1) v (placesL (keptAt s asg) k) ∧ Below (w.heap.size + 1) (w.alloc (.cells #[.int .i64 s.n, .slice a1 s.c.length k1, .slice a2 s.s.length k2] 50)) wr) (fun _ j _ => s.c.length - (intOf j).toNat)
  case atStart => exact ⟨0, Nat.zero_le _, rfl, (by have h := own_empty (w.alloc (.cells #[.int .i64 s.n, .slice a1 s.c.length k1, .slice a2 s.s.length k2] 50)) (w.heap.size + 1) (by simp); simp only [World.size_alloc] at h; exact h), (Below.refl _ _).alloc (by simp) _⟩
  case round =>
    obtain ⟨k, hk, rfl, hown, hB⟩ := hrel
    have hall : Below w.heap.size w wr := hA.trans (hB.mono (by omega))
    have hsz := hB.size
    simp only [World.size_alloc] at hsz
    have pB : wr.heap[w.heap.size]? = some (.cells #[.int .i64 s.n, .slice a1 s.c.length k1, .slice a2 s.s.length k2] 50 (0, 0)) := (hB.block _ (by omega)).trans (heap_alloc_at rfl)
    obtain ⟨⟨z0, z1, z2⟩, -⟩ := blk3 pB
    by_cases hlt : k < s.c.length
    · obtain ⟨bl, off, a0, c0, rfl, hb, hcell, hi⟩ := (hc.below hall).at k hlt
      obtain ⟨bs, os, rfl, hbs, hcell2⟩ := (hsu.below hall).at k (by have := hsl.out; omega)
      obtain ⟨X1, X2⟩ := hX.out k hlt
      replace X1 := Lib.hid X1
      obtain ⟨o0, o1⟩ := onesV_bound s.c[k] asg h1.out
      have eg : Hid (s.c.getD k [] = s.c[k]) := Lib.hid (by simp [List.getD, hlt])
      have eg2 : Hid (s.s.getD k 0 = s.s[k]'(by have := hsl.out; omega)) := Lib.hid (by rw [List.getD, List.getElem?_eq_getElem (by have := hsl.out; omega)]; rfl)
      have hks : k < s.s.length := by have := hsl.out; omega
      have ht : Hid ((onesE s.c[k] asg).tmod 2 = onesE s.c[k] asg % 2) := Lib.hid (Int.tmod_eq_emod_of_nonneg o0)
      cases hx : ((onesE s.c[k] asg).tmod 2 == s.s[k])
      · have hF : Hid (placesL (keptAt s asg) (k + 1) = placesL (keptAt s asg) k) := Lib.hid (placesL_no (by unfold keptAt; rw [eg.out, eg2.out, ← ht.out, hx]))
        have hx2 : (onesE s.c[k] asg % 2 == s.s[k]) = false := by rw [← ht.out]; exact hx
        go_wp2_with fail
        go_quiet ((go_at_call 107; (first | exact quiet_left (c_l7Ones _ _ s.c[k] asg _ (hi.below (below_drewN (Below.refl _ _) _)) ((g.below hall).below (below_drewN (Below.refl _ _) _)) X1.out h1.out (by omega)) | exact quiet_add_left (c_l7Ones _ _ s.c[k] asg _ (hi.below (below_drewN (Below.refl _ _) _)) ((g.below hall).below (below_drewN (Below.refl _ _) _)) X1.out h1.out (by omega)))))
        all_goals go_wp2
        all_goals go_roundw
        case rel => exact ⟨k + 1, by omega, by go_num, by rw [hF.out]; exact hown.below (below_drewN (Below.refl _ _) _), below_drewN hB _⟩
        case measure => simp [intOf]; omega
      · have hF : Hid (placesL (keptAt s asg) (k + 1) = placesL (keptAt s asg) k ++ [(k : Int)]) := Lib.hid (placesL_yes (by unfold keptAt; rw [eg.out, eg2.out, ← ht.out, hx]))
        have hx2 : (onesE s.c[k] asg % 2 == s.s[k]) = true := by rw [← ht.out]; exact hx
        go_wp2_with fail
        go_quiet ((go_at_call 107; (first | exact quiet_left (c_l7Ones _ _ s.c[k] asg _ (hi.below (below_drewN (Below.refl _ _) _)) ((g.below hall).below (below_drewN (Below.refl _ _) _)) X1.out h1.out (by omega)) | exact quiet_add_left (c_l7Ones _ _ s.c[k] asg _ (hi.below (below_drewN (Below.refl _ _) _)) ((g.below hall).below (below_drewN (Below.refl _ _) _)) X1.out h1.out (by omega)))))
        all_goals go_wp2_with (at_builtin; refine wp_append_int _ _ rfl _ _ rfl (w.heap.size + 1) _ _ rfl (hown.below (below_drewN (Below.refl _ _) _)) rfl (by first | rfl | simp) (by have := placesL_len (keptAt s asg) k; omega) (by first | exact hsz | (simp; omega)) ?_; intro v' w2 hown2 _ hB2 _)
        rw [← hF.out] at hown2
        all_goals go_roundw
        case rel => exact ⟨k + 1, by omega, by go_num, hown2, (below_drewN hB _).trans hB2⟩
        case measure => simp [intOf]; omega
    · obtain rfl : k = s.c.length := by omega
      go_wp2
      go_ret
      exact ⟨_, rfl, hown.mono (by omega), hall⟩

/-- an assignment of a scene -/
def asgB (s : SceneD) (asg : List Int) : Bool := bitsB s.n asg
theorem asgB_len {s : SceneD} {asg : List Int} (h : asgB s asg = true) : (asg.length : Int) = s.n ∧ ∀ x ∈ asg, 0 ≤ x ∧ x ≤ 1 := by
  unfold asgB bitsB at h
  simp only [Bool.and_eq_true, beq_iff_eq, List.all_eq_true, inB_iff] at h
  exact h


set_option maxHeartbeats 1000000 in
theorem c_l7Solves (v u : Value) (s : SceneD) (asg : List Int) (w : World) (h : SceneR w v s) (ga : Ints w u asg) (hs : sceneB s = true) (ha : (asg.length : Int) = s.n) (h1 : ∀ x ∈ asg, 0 ≤ x ∧ x ≤ 1) :
    Calls Try.prog 91 #[v, u] w fun e w' => e = .returned (.bool (solvesB s asg)) ∧ Below w.heap.size w w' := by
  obtain ⟨v1, v2, rfl, hc, hsu⟩ := id h
  obtain ⟨a1, k1, rfl, l1⟩ := hc.out
  obtain ⟨a2, k2, rfl, l2, -⟩ := hsu.out
  have hA := (Below.refl w.heap.size w).alloc (Nat.le_refl _) (.cells #[.int .i64 s.n, .slice a1 s.c.length k1, .slice a2 s.s.length k2] 50)
  obtain ⟨ad2, cap2, rfl, hl2, -⟩ := ga.out
  replace hs := Lib.hid hs
  replace ha := Lib.hid ha
  replace h1 := Lib.hid h1
  have pB : (w.alloc (.cells #[.int .i64 s.n, .slice a1 s.c.length k1, .slice a2 s.s.length k2] 50)).heap[w.heap.size]? = some (.cells #[.int .i64 s.n, .slice a1 s.c.length k1, .slice a2 s.s.length k2] 50 (0, 0)) := heap_alloc_at rfl
  obtain ⟨⟨z0, z1, z2⟩, -⟩ := blk3 pB
  have hlb : w.heap.size < (w.alloc (.cells #[.int .i64 s.n, .slice a1 s.c.length k1, .slice a2 s.s.length k2] 50)).heap.size := by simp
  go_enter Try.func91, Try.ntmps91
  go_wp2_with fail
  refine wp_region_rk (by kernel_rfl) [none, none, none, none, some 8, some 0, some 1, some 2, some 3, some 4, some 5, some 6, some 7] 8 (by kernel_rfl) (by kernel_rfl) (by kernel_rfl) _ rfl w.heap.size [rkV (.agg #[.int .i64 s.n, .slice a1 s.c.length k1, .slice a2 s.s.length k2]), rkV (.slice ad2 asg.length cap2), rkL (keptL s asg), rkV (.int .i64 ((keptL s asg).length : Int)), rkV (.pointer (some ⟨w.heap.size, 1, none⟩)), rkV (.slice a1 s.c.length k1), rkV (.int .i64 (s.c.length : Int)), rkV (.bool (solvesB s asg))] _ rfl (by kernel_rfl) (by simp) ?_ ?_
  · intro i o ho hi u g ww hbw hd
    have hall : Below w.heap.size w ww := hA.trans (hbw.mono (by simp))
    have hlow : w.heap.size ≤ ww.heap.size := hall.size
    obtain ⟨hcl, hfr⟩ := bcell hbw
    have y_z0 := (hcl _ _ (by omega)).trans z0
    have y_z1 := (hcl _ _ (by omega)).trans z1
    have y_z2 := (hcl _ _ (by omega)).trans z2
    clear hcl hfr
    rcases i with _ | _ | _ | _ | _ | _ | _ | _ | _ | i
    all_goals try obtain rfl := Option.some.inj ho
    all_goals try simp only [putAll, fillL]
    · go_wp2
      exact ⟨_, rfl, kept0 (Below.refl _ _), rfl⟩
    · go_wp2
      exact ⟨_, rfl, kept0 (Below.refl _ _), rfl⟩
    · have e0 : u 0 = .agg #[.int .i64 s.n, .slice a1 s.c.length k1, .slice a2 s.s.length k2] := hd 0 (by decide)
      rw [e0]
      have e1 : u 1 = .slice ad2 asg.length cap2 := hd 1 (by decide)
      rw [e1]
      go_wp2_with fail
      refine (c_l7Kept _ _ s asg _ (h.below hall) (ga.below hall) hs.out ha.out h1.out).mono ?_
      rintro e wn ⟨vn, rfl, hvn, hbn⟩
      go_wp2
      exact ⟨_, by simp only [putAll, fillL, e0, e1] <;> rfl, kept0 hbn, ⟨hvn.mono hlow, hvn.le, OwnS.lt hvn⟩⟩
    · have d2 : OwnF ww w.heap.size (InI (g 2)) (u 2) _ := hd 2 (by decide)
      obtain ⟨p2, q2, e2, -⟩ := d2.rd.out
      rw [e2]
      go_wp2
      exact ⟨_, by simp only [putAll, fillL, e2] <;> rfl, kept0 (Below.refl _ _), rfl⟩
    · go_wp2
      exact ⟨_, rfl, kept0 (Below.refl _ _), rfl⟩
    · have e4 : u 4 = .pointer (some ⟨w.heap.size, 1, none⟩) := hd 4 (by decide)
      rw [e4]
      go_wp2
      exact ⟨_, by simp only [putAll, fillL, e4] <;> rfl, kept0 (Below.refl _ _), rfl⟩
    · have e5 : u 5 = .slice a1 s.c.length k1 := hd 5 (by decide)
      rw [e5]
      go_wp2
      exact ⟨_, by simp only [putAll, fillL, e5] <;> rfl, kept0 (Below.refl _ _), rfl⟩
    · have e3 : u 3 = .int .i64 ((keptL s asg).length : Int) := hd 3 (by decide)
      rw [e3]
      have e6 : u 6 = .int .i64 (s.c.length : Int) := hd 6 (by decide)
      rw [e6]
      go_wp2
      exact ⟨_, by simp only [putAll, fillL, e3, e6] <;> rfl, kept0 (Below.refl _ _), rfl⟩
    · exact absurd rfl hi
    · simp at ho
  · intro u g' w2 hbw hR hAp
    have e7 : u 7 = .bool (solvesB s asg) := hR 7 (by decide) (by decide)
    simp only [putAll, fillL]
    rw [e7]
    have hall := hA.trans (hbw.mono (by simp))
    clear hR hAp
    go_wp2
    go_ret
    exact ⟨rfl, hall⟩


theorem c_spec_KeptBy (v u : Value) (s : SceneD) (asg : List Int) (w : World) (h : SceneR w v s) (g : Ints w u asg) :
    Calls Try.prog 51 #[v, u] w fun e w' => ∃ v', e = .returned (.tuple #[v', .bool (sceneB s && asgB s asg)]) ∧ OwnI w' w.heap.size v' (if sceneB s && asgB s asg then keptL s asg else []) ∧ Below w.heap.size w w' := by
  obtain ⟨v1, v2, rfl, hc, hsu⟩ := id h
  obtain ⟨a1, k1, rfl, l1⟩ := hc.out
  obtain ⟨a2, k2, rfl, l2, -⟩ := hsu.out
  have hA := (Below.refl w.heap.size w).alloc (Nat.le_refl _) (.cells #[.int .i64 s.n, .slice a1 s.c.length k1, .slice a2 s.s.length k2] 50)
  obtain ⟨ad2, cap2, rfl, hl2, -⟩ := g.out
  have hF : Hid (asgB s asg = bitsB s.n asg) := Lib.hid rfl
  cases hs : sceneB s
  · replace hs := Lib.hid hs
    go_enter Try.func51, Try.ntmps51
    go_wp2_with fail
    refine (c_l7Good _ s _ (h.below hA)).mono ?_
    rintro e w1 ⟨rfl, hb⟩
    rw [hs.out]
    have hA1 := hA.trans (hb.mono (by simp))
    have hz := hA1.size
    go_wp2
    go_ret2
    exact ⟨_, rfl, own_empty _ _ hz, hA1.alloc hz _⟩
  · cases ha : asgB s asg
    · have hs' := Lib.hid hs
      clear hs
      rw [hF.out] at ha
      replace ha := Lib.hid ha
      have pB : (w.alloc (.cells #[.int .i64 s.n, .slice a1 s.c.length k1, .slice a2 s.s.length k2] 50)).heap[w.heap.size]? = some (.cells #[.int .i64 s.n, .slice a1 s.c.length k1, .slice a2 s.s.length k2] 50 (0, 0)) := heap_alloc_at rfl
      go_enter Try.func51, Try.ntmps51
      go_wp2_with fail
      refine (c_l7Good _ s _ (h.below hA)).mono ?_
      rintro e w1 ⟨rfl, hb⟩
      rw [hs'.out]
      have hA1 := hA.trans (hb.mono (by simp))
      have hz := hA1.size
      obtain ⟨⟨z0, z1, z2⟩, -⟩ := blk3 (blk_later hb pB)
      go_wp2_with fail
      refine (c_l2Bits _ asg _ _ (g.below hA1)).mono ?_
      rintro e w1 ⟨rfl, rfl⟩
      rw [ha.out]
      go_wp2
      go_ret2
      exact ⟨_, rfl, own_empty _ _ hz, hA1.alloc hz _⟩
    · have hl := asgB_len ha
      have hs' := Lib.hid hs
      clear hs
      rw [hF.out] at ha
      replace ha := Lib.hid ha
      replace hl := Lib.hid hl
      have pB : (w.alloc (.cells #[.int .i64 s.n, .slice a1 s.c.length k1, .slice a2 s.s.length k2] 50)).heap[w.heap.size]? = some (.cells #[.int .i64 s.n, .slice a1 s.c.length k1, .slice a2 s.s.length k2] 50 (0, 0)) := heap_alloc_at rfl
      go_enter Try.func51, Try.ntmps51
      go_wp2_with fail
      refine (c_l7Good _ s _ (h.below hA)).mono ?_
      rintro e w1 ⟨rfl, hb⟩
      rw [hs'.out]
      have hA1 := hA.trans (hb.mono (by simp))
      have hz := hA1.size
      obtain ⟨⟨z0, z1, z2⟩, -⟩ := blk3 (blk_later hb pB)
      go_wp2_with fail
      refine (c_l2Bits _ asg _ _ (g.below hA1)).mono ?_
      rintro e w1 ⟨rfl, rfl⟩
      rw [ha.out]
      go_wp2_with fail
      refine (c_l7Kept _ _ s asg _ (h.below hA1) (g.below hA1) hs'.out hl.out.1 hl.out.2).mono ?_
      rintro e w2 ⟨v', rfl, hv', hb2⟩
      go_wp2
      go_ret2
      exact ⟨_, rfl, hv'.mono hz, bstep hA1 hb2⟩

set_option maxHeartbeats 1000000 in
theorem c_l7Picks (v u : Value) (s : SceneD) (asg : List Int) (w : World) (h : SceneR w v s) (ga : Ints w u asg) (hs : sceneB s = true) (ha : (asg.length : Int) = s.n) (h1 : ∀ x ∈ asg, 0 ≤ x ∧ x ≤ 1) :
    Calls Try.prog 84 #[v, u] w fun e w' => e = .returned (.bool (picksB s asg)) ∧ Below w.heap.size w w' := by
  obtain ⟨v1, v2, rfl, hc, hsu⟩ := id h
  obtain ⟨a1, k1, rfl, l1⟩ := hc.out
  obtain ⟨a2, k2, rfl, l2, -⟩ := hsu.out
  have hA := (Below.refl w.heap.size w).alloc (Nat.le_refl _) (.cells #[.int .i64 s.n, .slice a1 s.c.length k1, .slice a2 s.s.length k2] 50)
  obtain ⟨ad2, cap2, rfl, hl2, -⟩ := ga.out
  have hX := kept_ctx hs ha
  replace hX := Lib.hid hX
  replace hs := Lib.hid hs
  replace ha := Lib.hid ha
  replace h1 := Lib.hid h1
  go_enter Try.func84, Try.ntmps84
  go_wp2_with fail
  go_loop [5] (fun i => ∃ k : Nat, k ≤ s.c.length ∧ i = .int .i64 k ∧ Hid ((List.range k).all (pickAt s asg) = true)) (fun i => s.c.length - (intOf i).toNat)
  case atStart => exact ⟨0, Nat.zero_le _, rfl, rfl⟩
  case round =>
    obtain ⟨k, hk, rfl, HA⟩ := hrel
    by_cases hlt : k < s.c.length
    · obtain ⟨bl, off, a0, c0, rfl, hb, hcell, hi⟩ := hc.at k hlt
      obtain ⟨X1, X2⟩ := hX.out k hlt
      replace X1 := Lib.hid X1
      have eg : Hid (s.c.getD k [] = s.c[k]) := Lib.hid (by simp [List.getD, hlt])
      cases hx : (onesE s.c[k] asg == 1)
      · have hF : Hid (picksB s asg = false) := Lib.hid (range_all_false hlt (by unfold pickAt; rw [eg.out, hx]))
        have hx2 : (onesE s.c[k] asg != 1) = true := by simp only [bne, hx]; rfl
        go_wp2_with fail
        refine (c_l7Ones _ _ s.c[k] asg _ (hi.below hA) (ga.below hA) X1.out h1.out (by omega)).mono ?_
        rintro e _ ⟨rfl, rfl⟩
        go_wp2
        go_ret
        exact ⟨by rw [hF.out]; rfl, hA⟩
      · have hF : Hid ((List.range (k + 1)).all (pickAt s asg) = true) := Lib.hid (by rw [range_all_succ, HA.out]; unfold pickAt; rw [eg.out, hx]; rfl)
        have hx2 : (onesE s.c[k] asg != 1) = false := by simp only [bne, hx]; rfl
        go_wp2_with fail
        refine (c_l7Ones _ _ s.c[k] asg _ (hi.below hA) (ga.below hA) X1.out h1.out (by omega)).mono ?_
        rintro e _ ⟨rfl, rfl⟩
        go_wp2
        go_round
        case rel => exact ⟨k + 1, by omega, by go_num, hF⟩
        case measure => simp [intOf]; omega
    · obtain rfl : k = s.c.length := by omega
      have hF : Hid (picksB s asg = true) := HA
      go_wp2
      go_ret
      exact ⟨by rw [hF.out]; rfl, hA⟩

set_option maxHeartbeats 1000000 in
theorem c_spec_SolvesScene (v u : Value) (s : SceneD) (asg : List Int) (w : World) (h : SceneR w v s) (g : Ints w u asg) :
    Calls Try.prog 47 #[v, u] w fun e w' => e = .returned (.tuple #[.bool (sceneB s && (asgB s asg && solvesB s asg)), .bool (sceneB s)]) ∧ Below w.heap.size w w' := by
  obtain ⟨v1, v2, rfl, hc, hsu⟩ := id h
  obtain ⟨a1, k1, rfl, l1⟩ := hc.out
  obtain ⟨a2, k2, rfl, l2, -⟩ := hsu.out
  have hA := (Below.refl w.heap.size w).alloc (Nat.le_refl _) (.cells #[.int .i64 s.n, .slice a1 s.c.length k1, .slice a2 s.s.length k2] 50)
  obtain ⟨ad2, cap2, rfl, hl2, -⟩ := g.out
  have hF : Hid (asgB s asg = bitsB s.n asg) := Lib.hid rfl
  cases hs : sceneB s
  · replace hs := Lib.hid hs
    go_enter Try.func47, Try.ntmps47
    go_wp2_with fail
    refine (c_l7Good _ s _ (h.below hA)).mono ?_
    rintro e w1 ⟨rfl, hb⟩
    rw [hs.out]
    have hA1 := hA.trans (hb.mono (by simp))
    have hz := hA1.size
    go_wp2
    go_ret2
    exact ⟨rfl, hA1⟩
  · cases ha : asgB s asg
    · have hs' := Lib.hid hs
      clear hs
      rw [hF.out] at ha
      replace ha := Lib.hid ha
      have pB : (w.alloc (.cells #[.int .i64 s.n, .slice a1 s.c.length k1, .slice a2 s.s.length k2] 50)).heap[w.heap.size]? = some (.cells #[.int .i64 s.n, .slice a1 s.c.length k1, .slice a2 s.s.length k2] 50 (0, 0)) := heap_alloc_at rfl
      go_enter Try.func47, Try.ntmps47
      go_wp2_with fail
      refine (c_l7Good _ s _ (h.below hA)).mono ?_
      rintro e w1 ⟨rfl, hb⟩
      rw [hs'.out]
      have hA1 := hA.trans (hb.mono (by simp))
      have hz := hA1.size
      obtain ⟨⟨z0, z1, z2⟩, -⟩ := blk3 (blk_later hb pB)
      go_wp2_with fail
      refine (c_l2Bits _ asg _ _ (g.below hA1)).mono ?_
      rintro e w1 ⟨rfl, rfl⟩
      rw [ha.out]
      go_wp2
      go_ret2
      exact ⟨rfl, hA1⟩
    · have hl := asgB_len ha
      have hs' := Lib.hid hs
      clear hs
      rw [hF.out] at ha
      replace ha := Lib.hid ha
      replace hl := Lib.hid hl
      have hV : Hid ((true && (true && solvesB s asg)) = solvesB s asg) := Lib.hid (by simp)
      rw [hV.out]
      have pB : (w.alloc (.cells #[.int .i64 s.n, .slice a1 s.c.length k1, .slice a2 s.s.length k2] 50)).heap[w.heap.size]? = some (.cells #[.int .i64 s.n, .slice a1 s.c.length k1, .slice a2 s.s.length k2] 50 (0, 0)) := heap_alloc_at rfl
      go_enter Try.func47, Try.ntmps47
      go_wp2_with fail
      refine (c_l7Good _ s _ (h.below hA)).mono ?_
      rintro e w1 ⟨rfl, hb⟩
      rw [hs'.out]
      have hA1 := hA.trans (hb.mono (by simp))
      have hz := hA1.size
      obtain ⟨⟨z0, z1, z2⟩, -⟩ := blk3 (blk_later hb pB)
      go_wp2_with fail
      refine (c_l2Bits _ asg _ _ (g.below hA1)).mono ?_
      rintro e w1 ⟨rfl, rfl⟩
      rw [ha.out]
      go_wp2_with fail
      refine (c_l7Solves _ _ s asg _ (h.below hA1) (g.below hA1) hs'.out hl.out.1 hl.out.2).mono ?_
      rintro e w2 ⟨rfl, hb2⟩
      go_wp2
      go_ret2
      exact ⟨rfl, bstep hA1 hb2⟩
set_option maxHeartbeats 1000000 in
theorem c_spec_Picks (v u : Value) (s : SceneD) (asg : List Int) (w : World) (h : SceneR w v s) (g : Ints w u asg) :
    Calls Try.prog 39 #[v, u] w fun e w' => e = .returned (.tuple #[.bool (sceneB s && (asgB s asg && picksB s asg)), .bool (sceneB s)]) ∧ Below w.heap.size w w' := by
  obtain ⟨v1, v2, rfl, hc, hsu⟩ := id h
  obtain ⟨a1, k1, rfl, l1⟩ := hc.out
  obtain ⟨a2, k2, rfl, l2, -⟩ := hsu.out
  have hA := (Below.refl w.heap.size w).alloc (Nat.le_refl _) (.cells #[.int .i64 s.n, .slice a1 s.c.length k1, .slice a2 s.s.length k2] 50)
  obtain ⟨ad2, cap2, rfl, hl2, -⟩ := g.out
  have hF : Hid (asgB s asg = bitsB s.n asg) := Lib.hid rfl
  cases hs : sceneB s
  · replace hs := Lib.hid hs
    go_enter Try.func39, Try.ntmps39
    go_wp2_with fail
    refine (c_l7Good _ s _ (h.below hA)).mono ?_
    rintro e w1 ⟨rfl, hb⟩
    rw [hs.out]
    have hA1 := hA.trans (hb.mono (by simp))
    have hz := hA1.size
    go_wp2
    go_ret2
    exact ⟨rfl, hA1⟩
  · cases ha : asgB s asg
    · have hs' := Lib.hid hs
      clear hs
      rw [hF.out] at ha
      replace ha := Lib.hid ha
      have pB : (w.alloc (.cells #[.int .i64 s.n, .slice a1 s.c.length k1, .slice a2 s.s.length k2] 50)).heap[w.heap.size]? = some (.cells #[.int .i64 s.n, .slice a1 s.c.length k1, .slice a2 s.s.length k2] 50 (0, 0)) := heap_alloc_at rfl
      go_enter Try.func39, Try.ntmps39
      go_wp2_with fail
      refine (c_l7Good _ s _ (h.below hA)).mono ?_
      rintro e w1 ⟨rfl, hb⟩
      rw [hs'.out]
      have hA1 := hA.trans (hb.mono (by simp))
      have hz := hA1.size
      obtain ⟨⟨z0, z1, z2⟩, -⟩ := blk3 (blk_later hb pB)
      go_wp2_with fail
      refine (c_l2Bits _ asg _ _ (g.below hA1)).mono ?_
      rintro e w1 ⟨rfl, rfl⟩
      rw [ha.out]
      go_wp2
      go_ret2
      exact ⟨rfl, hA1⟩
    · have hl := asgB_len ha
      have hs' := Lib.hid hs
      clear hs
      rw [hF.out] at ha
      replace ha := Lib.hid ha
      replace hl := Lib.hid hl
      have hV : Hid ((true && (true && picksB s asg)) = picksB s asg) := Lib.hid (by simp)
      rw [hV.out]
      have pB : (w.alloc (.cells #[.int .i64 s.n, .slice a1 s.c.length k1, .slice a2 s.s.length k2] 50)).heap[w.heap.size]? = some (.cells #[.int .i64 s.n, .slice a1 s.c.length k1, .slice a2 s.s.length k2] 50 (0, 0)) := heap_alloc_at rfl
      go_enter Try.func39, Try.ntmps39
      go_wp2_with fail
      refine (c_l7Good _ s _ (h.below hA)).mono ?_
      rintro e w1 ⟨rfl, hb⟩
      rw [hs'.out]
      have hA1 := hA.trans (hb.mono (by simp))
      have hz := hA1.size
      obtain ⟨⟨z0, z1, z2⟩, -⟩ := blk3 (blk_later hb pB)
      go_wp2_with fail
      refine (c_l2Bits _ asg _ _ (g.below hA1)).mono ?_
      rintro e w1 ⟨rfl, rfl⟩
      rw [ha.out]
      go_wp2_with fail
      refine (c_l7Picks _ _ s asg _ (h.below hA1) (g.below hA1) hs'.out hl.out.1 hl.out.2).mono ?_
      rintro e w2 ⟨rfl, hb2⟩
      go_wp2
      go_ret2
      exact ⟨rfl, bstep hA1 hb2⟩
end Go.Proofs.Ytikfddppjalfdaa
