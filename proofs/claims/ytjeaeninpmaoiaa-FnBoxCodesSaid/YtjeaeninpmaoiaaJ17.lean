/- A box that is drawn, mostly a quiet one; conditions: none. -/
import Derived.Test.YtjeaeninpmaoiaaJ16
namespace Go.Proofs.Ytjeaeninpmaoiaa
open Go.RowKit


/-- a pointer into a list -/
def dkP (cg g : Nat) (p : Nat → Prop) : DK cg := ⟨fun v _ => ∃ j : Nat, v = .pointer (some ⟨g, j, none⟩) ∧ p j, fun _ _ _ h _ => h⟩
theorem rowsB_at {w : World} {lo g n cap : Nat} {xss : List (List Int)} (h : RowsB w lo (.slice (some ⟨g, 0, none⟩) n cap) xss) (j : Nat) (hj : j < xss.length) :
    ∃ u, w.cell? ⟨g, j, none⟩ = some u ∧ IntsB w lo u xss[j] := by
  obtain ⟨vs, ⟨a, c, e, hl, hc⟩, hn, hr, hv, hvs⟩ := h
  simp only [Value.slice.injEq] at e
  obtain ⟨rfl, rfl, rfl⟩ := e
  obtain ⟨b, off, e2, hb, hcell⟩ := hc j _ (List.getElem?_eq_getElem (by omega))
  simp only [Option.some.injEq, Addr.mk.injEq, and_true] at e2
  obtain ⟨rfl, rfl⟩ := e2
  rw [Nat.zero_add] at hcell
  exact ⟨_, hcell, hr j (by omega) hj, hvs j (by omega)⟩
theorem BoxX.stored {w : World} {lo b bb : Nat} {rv : Value} {r : BoxD} {c0 c1 c2 c3 : Value} (h : BoxX w lo bb rv r) (p : w.heap[b]? = some (.cells #[c0, c1, c2, c3] 50 (0, 0))) (hne : bb ≠ b) (v0 v1 v2 v3 : Value) :
    BoxX ((((w.setCell ⟨b, 0, none⟩ v0).setCell ⟨b, 1, none⟩ v1).setCell ⟨b, 2, none⟩ v2).setCell ⟨b, 3, none⟩ v3) lo bb rv r := by
  obtain ⟨-, -, hk⟩ := storedB p v0 v1 v2 v3
  obtain ⟨rv', e, h1⟩ := BoxO.stored h.o p v0 v1 v2 v3
  simp only [Value.agg.injEq] at e
  have e3 : rv = rv' := by simpa using e
  subst e3
  exact ⟨h.low, (hk.block bb h.lt hne).trans h.box, h1⟩
theorem Rows0.stored {w : World} {lo b : Nat} {rv : Value} {rs : List (List Int)} {c0 c1 c2 c3 : Value} (h : Rows0 w lo rv rs) (p : w.heap[b]? = some (.cells #[c0, c1, c2, c3] 50 (0, 0))) (v0 v1 v2 v3 : Value) :
    Rows0 ((((w.setCell ⟨b, 0, none⟩ v0).setCell ⟨b, 1, none⟩ v1).setCell ⟨b, 2, none⟩ v2).setCell ⟨b, 3, none⟩ v3) lo rv rs := by
  have ho : BoxO w lo (.agg #[.int .i64 0, .int .i64 0, .int .i64 0, rv]) ⟨0, 0, 0, rs⟩ := ⟨rv, rfl, h⟩
  obtain ⟨rv', e, h1⟩ := BoxO.stored ho p v0 v1 v2 v3
  simp only [Value.agg.injEq] at e
  have e3 : rv = rv' := by simpa using e
  subst e3
  exact h1
/-- another box is stored -/
theorem assign0 {w : World} {lo lo' b : Nat} {c0 c1 c2 c3 : Value} {rv' : Value} {x y n : Int} {rs : List (List Int)} (p : w.heap[b]? = some (.cells #[c0, c1, c2, c3] 50 (0, 0))) (hb0 : lo ≤ b) (ho : BoxO w lo' (.agg #[.int .i64 x, .int .i64 y, .int .i64 n, rv']) ⟨x, y, n, rs⟩) (hl : lo ≤ lo') :
    BoxX ((((w.setCell ⟨b, 0, none⟩ (.int .i64 x)).setCell ⟨b, 1, none⟩ (.int .i64 y)).setCell ⟨b, 2, none⟩ (.int .i64 n)).setCell ⟨b, 3, none⟩ rv') lo b rv' ⟨x, y, n, rs⟩ ∧
      KeptOff (fun k => k = b) w ((((w.setCell ⟨b, 0, none⟩ (.int .i64 x)).setCell ⟨b, 1, none⟩ (.int .i64 y)).setCell ⟨b, 2, none⟩ (.int .i64 n)).setCell ⟨b, 3, none⟩ rv') := by
  obtain ⟨-, hb, hk⟩ := storedB p (.int .i64 x) (.int .i64 y) (.int .i64 n) rv'
  obtain ⟨rv2, e, h1⟩ := BoxO.stored ho p (.int .i64 x) (.int .i64 y) (.int .i64 n) rv'
  have e3 : rv' = rv2 := by simpa using e
  subst e3
  exact ⟨⟨hb0, hb, h1.mono hl⟩, hk⟩
theorem mapR_mem {α : Type} (f : Nat → α) : ∀ (n : Nat) (x : α), x ∈ mapR f n → ∃ i, i < n ∧ x = f i := by
  intro n x hx
  obtain ⟨i, hi, rfl⟩ := List.getElem_of_mem hx
  exact ⟨i, by simpa [mapR] using hi, by simp [mapR]⟩
/-- a box of the region's own -/
def dkX (cg lo : Nat) (hl : cg < lo) (X Y : Int) (N : Nat) : DK cg := ⟨fun v w => ∃ r, BoxO w lo v r ∧ r.x = X ∧ r.y = Y ∧ Sh r N, fun _ _ _ ⟨r, h1, h2⟩ hk => ⟨r, h1.off hk fun k e => by omega, h2⟩⟩
/-- a block for a box -/
def dkA (cg lo : Nat) (hl : cg < lo) : DK cg := ⟨fun v w => ∃ g a b c d, v = .pointer (some ⟨g, 0, none⟩) ∧ lo ≤ g ∧ w.heap[g]? = some (.cells #[a, b, c, d] 50 (0, 0)),
  fun _ _ _ ⟨g, a, b, c, d, h1, h2, h3⟩ hk => ⟨g, a, b, c, d, h1, h2, (hk.block g (Array.getElem?_eq_some_iff.1 h3).1 (by omega)).trans h3⟩⟩
theorem BoxO.parts {w : World} {lo : Nat} {v : Value} {r : BoxD} {X Y : Int} {N : Nat} (h : BoxO w lo v r) (hx : r.x = X ∧ r.y = Y ∧ Sh r N) :
    ∃ n rs a c, v = .agg #[.int .i64 X, .int .i64 Y, .int .i64 n, .slice a N c] ∧ BoxO w lo (.agg #[.int .i64 X, .int .i64 Y, .int .i64 n, .slice a N c]) ⟨X, Y, n, rs⟩ ∧ Hid (Sh ⟨X, Y, n, rs⟩ N) := by
  obtain ⟨x, y, n, rs⟩ := r
  obtain ⟨h1, h2, h3⟩ := hx
  change x = X at h1
  change y = Y at h2
  subst h1 h2
  obtain ⟨a, c, rfl⟩ := h.form
  have hl : rs.length = N := h3.1
  refine ⟨n, rs, a, c, ?_, ?_, Lib.hid h3⟩
  · rw [← hl]
  · rw [← hl]; exact h
theorem BoxO.inner {w : World} {lo : Nat} {x y n : Int} {rv : Value} {r : BoxD} (h : BoxO w lo (.agg #[.int .i64 x, .int .i64 y, .int .i64 n, rv]) r) : Rows0 w lo rv r.r := by
  obtain ⟨rv2, e, h1⟩ := h
  have e3 : rv = rv2 := by simp at e; exact e.2.2.2
  subst e3
  exact h1
set_option maxRecDepth 100000 in
set_option maxHeartbeats 8000000 in
theorem c_quietOf (cg K : Nat) (x y : Int) (w : World) (h : CurR w cg K) (hK : K < 1060000000) :
    Calls Try.prog 73 #[.pointer (some ⟨cg, 0, none⟩), .int .i64 x, .int .i64 y] w fun e w' => ∃ v' r, e = .returned v' ∧ BoxO w' w.heap.size v' r ∧ r.r.length ≤ 16 ∧ CurR w' cg (K + 3000) ∧ KeptOff (fun k => k = cg) w w' := by
  have hg := h.lt
  have hA0 := (Below.refl w.heap.size w).alloc (Nat.le_refl _) (.cells #[.int .i64 0, .int .i64 0, .int .i64 0, .slice none 0 0] 50)
  obtain ⟨w0, hw0⟩ : ∃ z, z = w.alloc (.cells #[.int .i64 0, .int .i64 0, .int .i64 0, .slice none 0 0] 50) := ⟨_, rfl⟩
  have hz0 : w0.heap.size = w.heap.size + 1 := by rw [hw0]; simp
  have p0 : w0.heap[w.heap.size]? = some (.cells #[.int .i64 0, .int .i64 0, .int .i64 0, .slice none 0 0] 50 (0, 0)) := by rw [hw0]; exact heap_alloc_at rfl
  rw [← hw0] at hA0
  have hc0 := h.below hA0
  go_enter Try.func73, Try.ntmps73
  go_wp2_with fail
  rw [← hw0]
  clear hw0
  refine (c_l2Sizes x y _).mono ?_
  rintro e _ ⟨rfl, rfl⟩
  cases hs : bsizeB x y
  · replace hs := Lib.hid hs
    go_wp2_with fail
    refine (c_someBox cg K x y _ hc0 (by omega)).mono ?_
    rintro e w2 ⟨v2, r, rfl, hO, ⟨-, -, hl⟩, hc2, hk2⟩
    obtain ⟨a, c, rfl⟩ := hO.form
    obtain ⟨rx, hrx⟩ : ∃ n, n = r.x := ⟨_, rfl⟩
    obtain ⟨ry, hry⟩ : ∃ n, n = r.y := ⟨_, rfl⟩
    obtain ⟨rw', hrw⟩ : ∃ n, n = r.w := ⟨_, rfl⟩
    obtain ⟨n8, hn8⟩ : ∃ n, n = r.r.length := ⟨_, rfl⟩
    rw [← hrx, ← hry, ← hrw, ← hn8] at hO ⊢
    clear hrx hry hrw hn8
    have pz := (hk2.block w.heap.size (by omega) (by omega)).trans p0
    have hwz := (Array.getElem?_eq_some_iff.1 pz).1
    obtain ⟨⟨c0, c1, c2, c3⟩, g0, g1, g2, g3⟩ := blk4 pz
    obtain ⟨⟨⟨q0, q1⟩, q2, q3⟩, -, hk4⟩ := storedB pz (.int .i64 rx) (.int .i64 ry) (.int .i64 rw') (.slice a n8 c)
    replace q0 := Lib.hid q0
    replace q1 := Lib.hid q1
    replace q2 := Lib.hid q2
    replace q3 := Lib.hid q3
    have hc9 := CurR.off hc2 hk4 (fun k e => by omega)
    have hfin := Lib.hid (And.intro ((hO.stored pz (.int .i64 rx) (.int .i64 ry) (.int .i64 rw') (.slice a n8 c)).mono (show w.heap.size ≤ w0.heap.size by omega)) (And.intro (hc9.more (show _ ≤ K + 3000 by omega)) (keptc (F := fun k => k = cg) (keptc (F := fun k => k = cg) (kept0 hA0 |>.mono fun _ f => f.elim) hk2 (fun k e1 e2 => e2)) hk4 (fun k e1 e2 => by omega))))
    replace hl := Lib.hid hl
    clear pz hO hk2 hk4 hc2 hc9 hA0
    go_wp2
    refine bodyPost_ret (v := .agg #[.int .i64 rx, .int .i64 ry, .int .i64 rw', .slice a n8 c]) (by simp [results, Try.results73, go_sem, q0.out, q1.out, q2.out, q3.out]) rfl (by first | exact ⟨_, _, rfl, hfin.out.1, hl.out, hfin.out.2⟩ | exact ⟨_, rfl, _, hfin.out.1, hl.out, hfin.out.2⟩)
  obtain ⟨X, Y, rfl, rfl, hXX, hYY⟩ : ∃ X Y : Nat, x = X ∧ y = Y ∧ (1 ≤ X ∧ X ≤ 3) ∧ 1 ≤ Y ∧ Y ≤ 3 := by
    simp only [bsizeB, inB, Bool.and_eq_true, decide_eq_true_eq] at hs
    exact ⟨x.toNat, y.toNat, by omega, by omega, by omega, by omega⟩
  have hN : X * Y ≤ 9 := Nat.mul_le_mul hXX.2 hYY.2
  obtain ⟨N, hNe⟩ : ∃ N, N = X * Y := ⟨_, rfl⟩
  rw [← hNe] at hN
  replace hNe := Lib.hid hNe
  clear hs
  go_wp2_with fail
  refine (c_l2Plays X Y hXX.2 hYY.2 _).mono ?_
  rintro e w2 ⟨pv, rfl, hP, hB2⟩
  obtain ⟨M, hM⟩ : ∃ z, z = 2 ^ (X + Y) := ⟨_, rfl⟩
  have hM1 : 0 < M ∧ M ≤ 64 := by
    rw [hM]
    exact ⟨Nat.two_pow_pos _, Nat.le_trans (Nat.pow_le_pow_right (by omega) (show X + Y ≤ 6 by omega)) (by decide)⟩
  obtain ⟨PL, hPL⟩ : ∃ z, z = mapR (plyB (X + Y)) (2 ^ (X + Y)) := ⟨_, rfl⟩
  have hPl : Hid (PL.length = M) := Lib.hid (by rw [hPL, hM, mapR_len])
  have hPb : Hid (∀ p ∈ PL, p.length = X + Y ∧ ∀ x ∈ p, x = 0 ∨ x = 1) := Lib.hid fun p hp => by
    rw [hPL] at hp
    obtain ⟨i, -, rfl⟩ := mapR_mem _ _ _ hp
    exact plyB_01 _ _
  rw [← hPL] at hP
  obtain ⟨gp, cp, e, hgp⟩ := OwnR.form hP (by rw [hPl.out]; omega)
  rw [hPl.out] at e
  subst e
  replace hP : Rows0 w2 w0.heap.size (.slice (some ⟨gp, 0, none⟩) M cp) PL := hP
  obtain ⟨lo, hlo⟩ : ∃ z, z = w0.heap.size := ⟨_, rfl⟩
  rw [← hlo] at hP hgp
  have hc2 := hc0.below hB2
  have hk2 : KeptOff (fun k => k = cg ∨ lo ≤ k) w0 w2 := (kept0 hB2).mono fun _ f => f.elim
  have hq1 : cg < w.heap.size ∧ w.heap.size < lo ∧ lo ≤ w0.heap.size ∧ w0.heap.size ≤ lo ∧ lo ≤ w2.heap.size := by have := hB2.size; omega
  clear hPL hM hlo hB2 hc0 hz0 h
  go_upto_region 4 with fail
  refine wp_region_cur (by kernel_rfl) [none, none, none, none, none, none, none, none, some 13, none, none, none, none, none, none, none, none, none, none, none, none, none, none, none, none, some 0, some 1, some 2, some 3, some 4, some 5, some 6, some 7, some 8, some 9, some 10, some 11, some 12] 14 (by kernel_rfl) (by kernel_rfl) (by kernel_rfl) (by simp) _ rfl cg (K) hc2 (by omega) [dkV cg (.int .i64 (X : Int)), dkV cg (.int .i64 (Y : Int)), dkV cg (.slice (some ⟨gp, 0, none⟩) M cp), dkV cg (.pointer (some ⟨cg, 0, none⟩)), dkV cg (.slice (some ⟨gp, 0, none⟩) M cp), dkV cg (.int .i64 (M : Int)), dkN cg (fun x => 0 ≤ x ∧ x < (M : Int)), dkP cg gp (fun j => j < M), dkI cg lo (by omega) (fun xs => xs ∈ PL), dkV cg (.pointer (some ⟨cg, 0, none⟩)), dkN cg (fun x => 0 ≤ x ∧ x < 3), dkN cg (fun x => 1 ≤ x ∧ x ≤ 3), dkX cg lo (by omega) (X : Int) (Y : Int) (X * Y), dkA cg lo (by omega)] ?_ ?_
  · intro i o ho hi u ww Kn hk hc hKn hd
    have hsz := hk.size
    have hPw := hP.off hk (fun k e => by omega)
    rcases i with _ | _ | _ | _ | _ | _ | _ | _ | _ | _ | _ | _ | _ | _ | _ | i
    all_goals try obtain rfl := Option.some.inj ho
    all_goals try simp only [putAll, fillL, List.getElem_toArray, List.getElem_cons_succ, List.getElem_cons_zero]
    · go_wp2
      exact ⟨_, rfl, KeptOff.refl _ _, hc.more (by omega), rfl⟩
    · go_wp2
      exact ⟨_, rfl, KeptOff.refl _ _, hc.more (by omega), rfl⟩
    · go_wp2
      exact ⟨_, rfl, KeptOff.refl _ _, hc.more (by omega), rfl⟩
    · go_wp2
      exact ⟨_, rfl, KeptOff.refl _ _, hc.more (by omega), rfl⟩
    · go_wp2
      exact ⟨_, rfl, KeptOff.refl _ _, hc.more (by omega), rfl⟩
    · have e4 : u 4 = .slice (some ⟨gp, 0, none⟩) M cp := hd 4 (by decide)
      rw [e4]
      go_wp2
      exact ⟨_, by simp only [putAll, fillL, e4] <;> rfl, KeptOff.refl _ _, hc.more (by omega), rfl⟩
    · have e3 : u 3 = .pointer (some ⟨cg, 0, none⟩) := hd 3 (by decide)
      rw [e3]
      have e5 : u 5 = .int .i64 (M : Int) := hd 5 (by decide)
      rw [e5]
      go_wp2_with fail
      refine (c_pick cg _ _ _ hc (by omega) (by omega)).mono ?_
      rintro e wn ⟨x, rfl, hx, hcn, hkn⟩
      go_wp2
      exact ⟨_, by simp only [putAll, fillL, e3, e5] <;> rfl, hkn, hcn, ⟨_, rfl, by omega, by omega⟩⟩
    · have e2 : u 2 = .slice (some ⟨gp, 0, none⟩) M cp := hd 2 (by decide)
      rw [e2]
      obtain ⟨x6, e6, n6⟩ : ∃ x, u 6 = .int .i64 x ∧ _ := hd 6 (by decide)
      rw [e6]
      obtain ⟨j, rfl⟩ := Int.eq_ofNat_of_zero_le n6.1
      have hjM : j < M := by omega
      go_wp2
      exact ⟨_, by simp only [putAll, fillL, e2, e6] <;> rfl, KeptOff.refl _ _, hc.more (by omega), ⟨_, rfl, by omega⟩⟩
    · obtain ⟨j7, e7, n7⟩ : ∃ j : Nat, u 7 = .pointer (some ⟨_, j, none⟩) ∧ _ := hd 7 (by decide)
      rw [e7]
      obtain ⟨uu, huc, hui⟩ := rowsB_at (OwnR.b hPw) j7 (by rw [hPl.out]; exact n7)
      go_wp2
      exact ⟨_, by simp only [putAll, fillL, e7] <;> rfl, KeptOff.refl _ _, hc.more (by omega), ⟨_, List.getElem_mem _, hui⟩⟩
    · go_wp2
      exact ⟨_, rfl, KeptOff.refl _ _, hc.more (by omega), rfl⟩
    · have e9 : u 9 = .pointer (some ⟨cg, 0, none⟩) := hd 9 (by decide)
      rw [e9]
      go_wp2_with fail
      refine (c_pick cg _ _ _ hc (by omega) (by omega)).mono ?_
      rintro e wn ⟨x, rfl, hx, hcn, hkn⟩
      go_wp2
      exact ⟨_, by simp only [putAll, fillL, e9] <;> rfl, hkn, hcn, ⟨_, rfl, by omega, by omega⟩⟩
    · obtain ⟨x10, e10, n10⟩ : ∃ x, u 10 = .int .i64 x ∧ _ := hd 10 (by decide)
      rw [e10]
      go_wp2
      exact ⟨_, by simp only [putAll, fillL, e10] <;> rfl, KeptOff.refl _ _, hc.more (by omega), ⟨_, rfl, by omega, by omega⟩⟩
    · have e0 : u 0 = .int .i64 (X : Int) := hd 0 (by decide)
      rw [e0]
      have e1 : u 1 = .int .i64 (Y : Int) := hd 1 (by decide)
      rw [e1]
      obtain ⟨xs8, n8, i8⟩ : ∃ xs, _ ∧ IntsB ww _ (u 8) xs := hd 8 (by decide)
      obtain ⟨p8, c8, e8, -⟩ := i8.1.out
      rw [e8] at i8
      try rw [e8]
      obtain ⟨x11, e11, n11⟩ : ∃ x, u 11 = .int .i64 x ∧ _ := hd 11 (by decide)
      rw [e11]
      go_wp2_with fail
      refine (c_l2PlayBox X Y _ xs8 x11 hXX.2 hYY.2 _ i8.1 (hPb.out xs8 n8).1 (hPb.out xs8 n8).2).mono ?_
      rintro e wn ⟨vn, rn, rfl, hOn, hrn, hBn⟩
      go_wp2
      exact ⟨_, by simp only [putAll, fillL, e0, e1, e8, e11] <;> rfl, (kept0 hBn).mono fun _ f => f.elim, (hc.below hBn).more (by omega), ⟨_, hOn.mono (by omega), hrn⟩⟩
    · go_wp2
      exact ⟨_, rfl, kalloc _, (hc.below ((Below.refl _ _).alloc (Nat.le_refl _) _)).more (by omega), ⟨_, _, _, _, _, rfl, by omega, heap_alloc_at rfl⟩⟩
    · omega
    · simp at ho
  · intro u ww hk hc2 hV
    have hsz := hk.size
    simp only [putAll, fillL]
    have e0 : u 0 = .int .i64 (X : Int) := hV 0 (by decide)
    try rw [e0]
    have e1 : u 1 = .int .i64 (Y : Int) := hV 1 (by decide)
    try rw [e1]
    have e2 : u 2 = .slice (some ⟨gp, 0, none⟩) M cp := hV 2 (by decide)
    try rw [e2]
    have e3 : u 3 = .pointer (some ⟨cg, 0, none⟩) := hV 3 (by decide)
    try rw [e3]
    have e4 : u 4 = .slice (some ⟨gp, 0, none⟩) M cp := hV 4 (by decide)
    try rw [e4]
    have e5 : u 5 = .int .i64 (M : Int) := hV 5 (by decide)
    try rw [e5]
    obtain ⟨x6, e6, n6⟩ : ∃ x, u 6 = .int .i64 x ∧ _ := hV 6 (by decide)
    try rw [e6]
    obtain ⟨j7, e7, n7⟩ : ∃ j : Nat, u 7 = .pointer (some ⟨_, j, none⟩) ∧ _ := hV 7 (by decide)
    try rw [e7]
    obtain ⟨xs8, n8, i8⟩ : ∃ xs, _ ∧ IntsB ww _ (u 8) xs := hV 8 (by decide)
    obtain ⟨p8, c8, e8, -⟩ := i8.1.out
    rw [e8] at i8
    try rw [e8]
    have e9 : u 9 = .pointer (some ⟨cg, 0, none⟩) := hV 9 (by decide)
    try rw [e9]
    obtain ⟨x10, e10, n10⟩ : ∃ x, u 10 = .int .i64 x ∧ _ := hV 10 (by decide)
    try rw [e10]
    obtain ⟨x11, e11, n11⟩ : ∃ x, u 11 = .int .i64 x ∧ _ := hV 11 (by decide)
    try rw [e11]
    obtain ⟨r12, h12, k12⟩ : ∃ r, BoxO ww _ (u 12) r ∧ _ := hV 12 (by decide)
    obtain ⟨g13, ca13, cb13, cc13, cd13, e13, l13, p13⟩ : ∃ g a b c d, u 13 = .pointer (some ⟨g, 0, none⟩) ∧ _ := hV 13 (by decide)
    rw [e13]
    clear hV
    try simp only [List.getElem_toArray, List.getElem_cons_succ, List.getElem_cons_zero]
    change wpList _ _ _ [_] _ _
    have hPw := hP.off hk (fun k e => by omega)
    have hkr := hk2.trans (hk.mono fun k e => (.inl e : k = cg ∨ lo ≤ k))
    rw [← hNe.out] at k12
    obtain ⟨n1, rs, a1, c1, e12, hO, hsh⟩ := BoxO.parts h12 k12
    rw [e12]
    clear h12 k12 r12 e0 e1 e2 e3 e4 e5 e6 e7 e8 e9 e10 e11 e12 e13 i8 n8 n7 n6 n10 n11 hk2 hP
    obtain ⟨⟨z0, z1, z2, z3⟩, f0, f1, f2, f3⟩ := blk4 p13
    obtain ⟨hX9, hk9⟩ := assign0 p13 l13 hO (Nat.le_refl _)
    have hP9 := hPw.stored p13 (.int .i64 X) (.int .i64 Y) (.int .i64 n1) (.slice a1 N c1)
    have hc9 := hc2.off hk9 (fun k e => by omega)
    have hr9 := hkr.trans (hk9.mono fun k e => (.inr (by omega) : k = cg ∨ lo ≤ k))
    clear hPw hkr hk9 hO p13 hk hc2 hsz
    go_upto_region 5 with fail
    obtain ⟨gb, hgb⟩ : ∃ z, z = g13 := ⟨_, rfl⟩
    obtain ⟨w3, hw3⟩ : ∃ z, z = (((ww.setCell ⟨g13, 0, none⟩ (.int .i64 X)).setCell ⟨g13, 1, none⟩ (.int .i64 Y)).setCell ⟨g13, 2, none⟩ (.int .i64 n1)).setCell ⟨g13, 3, none⟩ (.slice a1 N c1) := ⟨_, rfl⟩
    rw [← hw3] at hX9 hP9 hc9 hr9 ⊢
    rw [← hgb] at hX9 l13 ⊢
    clear hw3 hgb f0 f1 f2 f3 z0 z1 z2 z3
    have hX := hX9
    have hP := hP9
    have hr := hr9
    clear hX9 hP9 hr9
    go_wp2_with fail
    refine (c_pick cg _ 4 _ hc9 (by omega) (by omega)).mono ?_
    rintro e w4 ⟨q0, rfl, hq0, hcr, hk4⟩
    replace hX := hX.off hk4 fun k e => by omega
    replace hP := hP.off hk4 fun k e => by omega
    have hkr := hr.trans (hk4.mono fun k e => (.inl e : k = cg ∨ lo ≤ k))
    have hq3 : q0 ≤ 3 := by omega
    clear hr hk4 hc9 hq0
    go_upto_region 6 with fail
    go_loopw [9] (fun i wr => ∃ (q : Nat) (n : Int) (rs : List (List Int)) (rv : Value), q ≤ 3 ∧ i = .int .i64 q ∧ BoxX wr lo gb rv ⟨X, Y, n, rs⟩ ∧ Hid (Sh ⟨X, Y, n, rs⟩ N) ∧ Rows0 wr lo (.slice (some ⟨gp, 0, none⟩) M cp) PL ∧ CurR wr cg (K + 50 + 50 * (3 - q)) ∧ KeptOff (fun k => k = cg ∨ lo ≤ k) w0 wr) (fun i _ => (intOf i).toNat)
    case atStart => exact ⟨q0, n1, rs, _, hq3, rfl, hX, hsh, hP, hcr.more (by omega), hkr⟩
    case round =>
      clear hX hP hcr hkr hsh
      obtain ⟨q, n, rs, rv, hq, rfl, hX, hsh, hP, hcr, hkr⟩ := hrel
      have hlw := hX.lt
      by_cases hq0 : 0 < q
      · have hd3 : decide ((q : Int) > 0) = true := by simp; omega
        obtain ⟨wp, rfl⟩ : ∃ wp : World, wp = wr := ⟨_, rfl⟩
        have hb4 := blk4 hX.box
        obtain ⟨a2, c2, e2, -⟩ := (OwnR.rows hX.row).out
        have hl2 : rs.length = N := hsh.out.1
        rw [show (BoxD.mk (X : Int) Y n rs).r = rs from rfl, hl2] at e2
        subst e2
        replace hl2 := Lib.hid hl2
        obtain ⟨⟨z0, z1, z2, z3⟩, -⟩ := hb4
        go_upto_region 8 with fail
        refine wp_region_cur (by kernel_rfl) [none, none, none, none, none, none, none, none, none, none, none, none, none, none, none, none, none, none, none, none, none, none, none, none, none, none, none, none, none, none, none, none, none, none, none, none, none, none, none, none, none, none, none, none, some 0, some 1, some 2, some 3, some 4, some 5, some 6, some 7, some 8, some 9, some 10, some 11, some 12, some 13, some 14] 14 (by kernel_rfl) (by kernel_rfl) (by kernel_rfl) (by simp) _ rfl cg (K + 50 + 50 * (3 - q)) hcr (by omega) [dkV cg (.agg #[.int .i64 X, .int .i64 Y, .int .i64 n, .slice a2 N c2]), dkV cg (.int .i64 (X : Int)), dkV cg (.int .i64 (Y : Int)), dkV cg (.slice (some ⟨gp, 0, none⟩) M cp), dkV cg (.pointer (some ⟨cg, 0, none⟩)), dkV cg (.slice (some ⟨gp, 0, none⟩) M cp), dkV cg (.int .i64 (M : Int)), dkN cg (fun x => 0 ≤ x ∧ x < (M : Int)), dkP cg gp (fun j => j < M), dkI cg lo (by omega) (fun xs => xs ∈ PL), dkV cg (.pointer (some ⟨cg, 0, none⟩)), dkN cg (fun x => 0 ≤ x ∧ x < 3), dkN cg (fun x => 1 ≤ x ∧ x ≤ 3), dkX cg lo (by omega) (X : Int) (Y : Int) (X * Y)] ?_ ?_
        · intro i o ho hi u ww Kn hk hc hKn hd
          have y_z0 := kcell hk z0 (by omega)
          have y_z1 := kcell hk z1 (by omega)
          have y_z2 := kcell hk z2 (by omega)
          have y_z3 := kcell hk z3 (by omega)
          have hsz := hk.size
          have hPw := hP.off hk (fun k e => by omega)
          rcases i with _ | _ | _ | _ | _ | _ | _ | _ | _ | _ | _ | _ | _ | _ | _ | _ | i
          all_goals try obtain rfl := Option.some.inj ho
          all_goals try simp only [putAll, fillL, List.getElem_toArray, List.getElem_cons_succ, List.getElem_cons_zero]
          · go_wp2
            exact ⟨_, rfl, KeptOff.refl _ _, hc.more (by omega), rfl⟩
          · go_wp2
            exact ⟨_, rfl, KeptOff.refl _ _, hc.more (by omega), rfl⟩
          · go_wp2
            exact ⟨_, rfl, KeptOff.refl _ _, hc.more (by omega), rfl⟩
          · go_wp2
            exact ⟨_, rfl, KeptOff.refl _ _, hc.more (by omega), rfl⟩
          · go_wp2
            exact ⟨_, rfl, KeptOff.refl _ _, hc.more (by omega), rfl⟩
          · go_wp2
            exact ⟨_, rfl, KeptOff.refl _ _, hc.more (by omega), rfl⟩
          · have e5 : u 5 = .slice (some ⟨gp, 0, none⟩) M cp := hd 5 (by decide)
            rw [e5]
            go_wp2
            exact ⟨_, by simp only [putAll, fillL, e5] <;> rfl, KeptOff.refl _ _, hc.more (by omega), rfl⟩
          · have e4 : u 4 = .pointer (some ⟨cg, 0, none⟩) := hd 4 (by decide)
            rw [e4]
            have e6 : u 6 = .int .i64 (M : Int) := hd 6 (by decide)
            rw [e6]
            go_wp2_with fail
            refine (c_pick cg _ _ _ hc (by omega) (by omega)).mono ?_
            rintro e wn ⟨x, rfl, hx, hcn, hkn⟩
            go_wp2
            exact ⟨_, by simp only [putAll, fillL, e4, e6] <;> rfl, hkn, hcn, ⟨_, rfl, by omega, by omega⟩⟩
          · have e3 : u 3 = .slice (some ⟨gp, 0, none⟩) M cp := hd 3 (by decide)
            rw [e3]
            obtain ⟨x7, e7, n7⟩ : ∃ x, u 7 = .int .i64 x ∧ _ := hd 7 (by decide)
            rw [e7]
            obtain ⟨j, rfl⟩ := Int.eq_ofNat_of_zero_le n7.1
            have hjM : j < M := by omega
            go_wp2
            exact ⟨_, by simp only [putAll, fillL, e3, e7] <;> rfl, KeptOff.refl _ _, hc.more (by omega), ⟨_, rfl, by omega⟩⟩
          · obtain ⟨j8, e8, n8⟩ : ∃ j : Nat, u 8 = .pointer (some ⟨_, j, none⟩) ∧ _ := hd 8 (by decide)
            rw [e8]
            obtain ⟨uu, huc, hui⟩ := rowsB_at (OwnR.b hPw) j8 (by rw [hPl.out]; exact n8)
            go_wp2
            exact ⟨_, by simp only [putAll, fillL, e8] <;> rfl, KeptOff.refl _ _, hc.more (by omega), ⟨_, List.getElem_mem _, hui⟩⟩
          · go_wp2
            exact ⟨_, rfl, KeptOff.refl _ _, hc.more (by omega), rfl⟩
          · have e10 : u 10 = .pointer (some ⟨cg, 0, none⟩) := hd 10 (by decide)
            rw [e10]
            go_wp2_with fail
            refine (c_pick cg _ _ _ hc (by omega) (by omega)).mono ?_
            rintro e wn ⟨x, rfl, hx, hcn, hkn⟩
            go_wp2
            exact ⟨_, by simp only [putAll, fillL, e10] <;> rfl, hkn, hcn, ⟨_, rfl, by omega, by omega⟩⟩
          · obtain ⟨x11, e11, n11⟩ : ∃ x, u 11 = .int .i64 x ∧ _ := hd 11 (by decide)
            rw [e11]
            go_wp2
            exact ⟨_, by simp only [putAll, fillL, e11] <;> rfl, KeptOff.refl _ _, hc.more (by omega), ⟨_, rfl, by omega, by omega⟩⟩
          · have e1 : u 1 = .int .i64 (X : Int) := hd 1 (by decide)
            rw [e1]
            have e2 : u 2 = .int .i64 (Y : Int) := hd 2 (by decide)
            rw [e2]
            obtain ⟨xs9, n9, i9⟩ : ∃ xs, _ ∧ IntsB ww _ (u 9) xs := hd 9 (by decide)
            obtain ⟨p9, c9, e9, -⟩ := i9.1.out
            rw [e9] at i9
            try rw [e9]
            obtain ⟨x12, e12, n12⟩ : ∃ x, u 12 = .int .i64 x ∧ _ := hd 12 (by decide)
            rw [e12]
            go_wp2_with fail
            refine (c_l2PlayBox X Y _ xs9 x12 hXX.2 hYY.2 _ i9.1 (hPb.out xs9 n9).1 (hPb.out xs9 n9).2).mono ?_
            rintro e wn ⟨vn, rn, rfl, hOn, hrn, hBn⟩
            go_wp2
            exact ⟨_, by simp only [putAll, fillL, e1, e2, e9, e12] <;> rfl, (kept0 hBn).mono fun _ f => f.elim, (hc.below hBn).more (by omega), ⟨_, hOn.mono (by omega), hrn⟩⟩
          · omega
          · omega
          · simp at ho
        · intro u ww hk hc2 hV
          have hsz := hk.size
          have y_z0 := kcell hk z0 (by omega)
          have y_z1 := kcell hk z1 (by omega)
          have y_z2 := kcell hk z2 (by omega)
          have y_z3 := kcell hk z3 (by omega)
          simp only [putAll, fillL]
          have e0 : u 0 = .agg #[.int .i64 X, .int .i64 Y, .int .i64 n, .slice a2 N c2] := hV 0 (by decide)
          rw [e0]
          have e1 : u 1 = .int .i64 (X : Int) := hV 1 (by decide)
          try rw [e1]
          have e2 : u 2 = .int .i64 (Y : Int) := hV 2 (by decide)
          try rw [e2]
          have e3 : u 3 = .slice (some ⟨gp, 0, none⟩) M cp := hV 3 (by decide)
          try rw [e3]
          have e4 : u 4 = .pointer (some ⟨cg, 0, none⟩) := hV 4 (by decide)
          try rw [e4]
          have e5 : u 5 = .slice (some ⟨gp, 0, none⟩) M cp := hV 5 (by decide)
          try rw [e5]
          have e6 : u 6 = .int .i64 (M : Int) := hV 6 (by decide)
          try rw [e6]
          obtain ⟨x7, e7, n7⟩ : ∃ x, u 7 = .int .i64 x ∧ _ := hV 7 (by decide)
          try rw [e7]
          obtain ⟨j8, e8, n8⟩ : ∃ j : Nat, u 8 = .pointer (some ⟨_, j, none⟩) ∧ _ := hV 8 (by decide)
          try rw [e8]
          obtain ⟨xs9, n9, i9⟩ : ∃ xs, _ ∧ IntsB ww _ (u 9) xs := hV 9 (by decide)
          obtain ⟨p9, c9, e9, -⟩ := i9.1.out
          rw [e9] at i9
          try rw [e9]
          have e10 : u 10 = .pointer (some ⟨cg, 0, none⟩) := hV 10 (by decide)
          try rw [e10]
          obtain ⟨x11, e11, n11⟩ : ∃ x, u 11 = .int .i64 x ∧ _ := hV 11 (by decide)
          try rw [e11]
          obtain ⟨x12, e12, n12⟩ : ∃ x, u 12 = .int .i64 x ∧ _ := hV 12 (by decide)
          try rw [e12]
          obtain ⟨r13, h13, k13⟩ : ∃ r, BoxO ww _ (u 13) r ∧ _ := hV 13 (by decide)
          clear hV
          try simp only [List.getElem_toArray, List.getElem_cons_succ, List.getElem_cons_zero]
          change wpList _ _ _ [_, _] _ _
          have hX8 := hX.off hk (fun k e => by omega)
          have hP8 := hP.off hk (fun k e => by omega)
          have hr8 := hkr.trans (hk.mono fun k e => (.inl e : k = cg ∨ lo ≤ k))
          rw [← hNe.out] at k13
          clear e1 e2 e3 e4 e5 e6 e7 e8 e9 e10 e11 e12 i9 n9 n8 n7 n11 n12 y_z0 y_z1 y_z2 y_z3 hk hX hP hkr hcr z0 z1 z2 z3
          have hX := hX8
          have hP := hP8
          have hkr := hr8
          have hcr := hc2
          clear hX8 hP8 hr8 hc2
          go_wp2_with fail
          refine (c_l2Mix _ _ ⟨X, Y, n, rs⟩ r13 N hN _ hX.o.rd h13.rd hsh.out k13.2.2).mono ?_
          rintro e w5 ⟨v5, r5, rfl, hO5, hr5, hB5⟩
          obtain ⟨n5, rs5, a5, c5, e5, hO, hsh5⟩ := BoxO.parts hO5 hr5
          rw [e5]
          clear hO5 hr5 e5 r5
          have hlz : lo ≤ w5.heap.size := by have := hX.lt; have := hX.low; have := hB5.size; omega
          have hly := hX.lt
          have hlx := hX.low
          replace hX := hX.below hB5
          replace hP := hP.below hB5
          replace hcr := hcr.below hB5
          replace hkr := hkr.trans (kept0 hB5 |>.mono (G := fun k => k = cg ∨ lo ≤ k) fun _ f => f.elim)
          clear hB5
          replace hsh := hsh5
          -- the box ⟨X, Y, NN, RS⟩ (fact hO, in W) goes into the box's cells; XF: the fact of the cells
          obtain ⟨⟨z0, z1, z2, z3⟩, f0, f1, f2, f3⟩ := blk4 hX.box
          obtain ⟨hX9, hk9⟩ := assign0 hX.box hX.low hO (by omega)
          have hP9 := hP.stored hX.box (.int .i64 X) (.int .i64 Y) (.int .i64 n5) (.slice a5 N c5)
          have hc9 := hcr.off hk9 (fun k e => by omega)
          have hr9 := hkr.trans (hk9.mono fun k e => (.inr (by omega) : k = cg ∨ lo ≤ k))
          clear hX hP hcr hkr hk9 hO
          go_upto_region 7 with fail
          obtain ⟨w6, hw9⟩ : ∃ z, z = (((w5.setCell ⟨gb, 0, none⟩ (.int .i64 X)).setCell ⟨gb, 1, none⟩ (.int .i64 Y)).setCell ⟨gb, 2, none⟩ (.int .i64 n5)).setCell ⟨gb, 3, none⟩ (.slice a5 N c5) := ⟨_, rfl⟩
          rw [← hw9] at hX9 hP9 hc9 hr9 ⊢
          try rw [← hw9] at hY
          clear hw9 f0 f1 f2 f3 z0 z1 z2 z3
          go_wp2
          go_roundw
          case rel => exact ⟨q - 1, n5, rs5, _, by omega, by first | go_num | exact congrArg (Value.int .i64) (by omega), hX9, hsh, hP9, hc9.more (by omega), hr9⟩
          case measure => simp [intOf]; omega
      · obtain rfl : q = 0 := by omega
        have hd3 : decide (((0 : Nat) : Int) > 0) = false := by simp
        obtain ⟨a2, c2, e2, -⟩ := (OwnR.rows hX.row).out
        have hl2 : rs.length = N := hsh.out.1
        rw [show (BoxD.mk (X : Int) Y n rs).r = rs from rfl, hl2] at e2
        subst e2
        clear hl2
        go_wp2_with fail
        refine (c_one cg _ 2 _ hcr (by omega) (by omega)).mono ?_
        rintro e w5 ⟨b2, rfl, hc5, hk5⟩
        replace hX := hX.off hk5 fun k e => by omega
        replace hP := hP.off hk5 fun k e => by omega
        replace hkr := hkr.trans (hk5.mono fun k e => (.inl e : k = cg ∨ lo ≤ k))
        replace hcr := hc5.more (show _ ≤ K + 300 by omega)
        clear hc5 hk5
        cases b2
        case false =>
          -- noise, perhaps; then the end
          obtain ⟨ws, hws⟩ : ∃ z, z = w5 := ⟨_, rfl⟩
          rw [← hws] at hX hP hcr hkr ⊢
          clear hws hlw
          go_wp2_with fail
          refine (c_NoiseBox X Y ⟨hXX, hYY⟩ _).mono ?_
          rintro e w5 ⟨v5, r5, bn, rfl, hO5, hb5, hB5⟩
          have hlz : lo ≤ ws.heap.size := by have := hX.lt; have := hX.low; omega
          have hly := hX.lt
          have hlx := hX.low
          replace hX := hX.below hB5
          replace hP := hP.below hB5
          replace hcr := hcr.below hB5
          replace hkr := hkr.trans (kept0 hB5 |>.mono (G := fun k => k = cg ∨ lo ≤ k) fun _ f => f.elim)
          have hz5 := hB5.size
          replace hO5 := hO5.mono hlz
          rw [← hNe.out] at hb5
          replace hb5 := Lib.hid hb5
          clear hB5
          obtain ⟨xz, yz, nz, rz⟩ := r5
          obtain ⟨va5, e5, hR5⟩ := hO5
          change v5 = .agg #[.int .i64 xz, .int .i64 yz, .int .i64 nz, va5] at e5
          change Rows0 _ _ va5 rz at hR5
          obtain ⟨a5, c5, e6, -⟩ := (OwnR.rows hR5).out
          obtain ⟨l5, hl5⟩ : ∃ z, z = rz.length := ⟨_, rfl⟩
          rw [← hl5] at e6
          replace hl5 := Lib.hid hl5
          subst e6
          subst e5
          obtain ⟨hY, hA⟩ := boxX_new (x := xz) (y := yz) (n := nz) hR5 (show lo ≤ w5.heap.size by omega)
          obtain ⟨gz, hgz⟩ : ∃ z, z = w5.heap.size := ⟨_, rfl⟩
          obtain ⟨w6, hw6⟩ : ∃ z, z = w5.alloc (.cells #[.int .i64 xz, .int .i64 yz, .int .i64 nz, .slice a5 l5 c5] 50) := ⟨_, rfl⟩
          rw [← hw6, ← hgz] at hY
          rw [← hw6] at hA
          replace hX := hX.below hA
          replace hP := hP.below hA
          replace hcr := hcr.below hA
          replace hkr := hkr.trans (kept0 hA |>.mono (G := fun k => k = cg ∨ lo ≤ k) fun _ f => f.elim)
          clear hA hR5
          go_upto_region 18 with fail
          rw [← hw6, ← hgz]
          replace hgz : w5.heap.size ≤ gz ∧ gz ≤ w5.heap.size := by omega
          clear hw6
          cases bn
          · clear hY hb5 hl5
            have hl7 : (rs : List (List Int)).length = N := hsh.out.1
            replace hl7 := Lib.hid hl7
            obtain ⟨⟨b0, b1, b2, b3⟩, -⟩ := blk4 hX.box
            have pz := (hkr.block w.heap.size (by omega) (by omega)).trans p0
            obtain ⟨⟨i0, i1, i2, i3⟩, g0, g1, g2, g3⟩ := blk4 pz
            have hO : BoxO w6 lo (.agg #[.int .i64 X, .int .i64 Y, .int .i64 n, .slice a2 N c2]) ⟨X, Y, n, rs⟩ := hX.o
            obtain ⟨⟨⟨q0, q1⟩, q2, q3⟩, -, hk4⟩ := storedB pz (.int .i64 X) (.int .i64 Y) (.int .i64 n) (.slice a2 N c2)
            replace q0 := Lib.hid q0
            replace q1 := Lib.hid q1
            replace q2 := Lib.hid q2
            replace q3 := Lib.hid q3
            have hc9 := CurR.off hcr hk4 (fun k e => by omega)
            have hfin := Lib.hid (And.intro ((hO.stored pz (.int .i64 X) (.int .i64 Y) (.int .i64 n) (.slice a2 N c2)).mono (show w.heap.size ≤ lo by omega)) (And.intro (show (rs : List (List Int)).length ≤ 16 by have := hl7.out; omega) (And.intro (hc9.more (show _ ≤ K + 3000 by omega)) (keptc (F := fun k => k = cg) (keptc (F := fun k => k = cg) (kept0 hA0 |>.mono fun _ f => f.elim) hkr (fun k e1 e2 => by rcases e2 with e2 | e2 <;> omega)) hk4 (fun k e1 e2 => by omega)))))
            clear pz hO hX hkr hk4 hcr hc9 hP p0 hA0
            go_wp2
            refine bodyPost_ret (v := .agg #[.int .i64 X, .int .i64 Y, .int .i64 n, .slice a2 N c2]) (by simp [results, Try.results73, go_sem, q0.out, q1.out, q2.out, q3.out]) rfl (by first | exact ⟨_, _, rfl, hfin.out.1, hfin.out.2.1, hfin.out.2.2⟩ | exact ⟨_, rfl, _, hfin.out.1, hfin.out.2.1, hfin.out.2.2⟩)
          obtain ⟨e1, e2, hs5⟩ := hb5.out rfl
          change xz = _ at e1
          change yz = _ at e2
          subst e1 e2
          go_wp2_with fail
          refine (c_one cg _ 4 _ hcr (by omega) (by omega)).mono ?_
          rintro e w7 ⟨b4, rfl, hc7, hk7⟩
          replace hX := hX.off hk7 fun k e => by omega
          replace hY := hY.off hk7 fun k e => by omega
          replace hP := hP.off hk7 fun k e => by omega
          replace hkr := hkr.trans (hk7.mono fun k e => (.inl e : k = cg ∨ lo ≤ k))
          have hcr := hc7
          clear hc7 hk7
          cases b4
          · go_upto_region 20 with fail
            clear hY hb5 hl5 hs5
            have hl7 : (rs : List (List Int)).length = N := hsh.out.1
            replace hl7 := Lib.hid hl7
            obtain ⟨⟨b0, b1, b2, b3⟩, -⟩ := blk4 hX.box
            have pz := (hkr.block w.heap.size (by omega) (by omega)).trans p0
            obtain ⟨⟨i0, i1, i2, i3⟩, g0, g1, g2, g3⟩ := blk4 pz
            have hO : BoxO w7 lo (.agg #[.int .i64 X, .int .i64 Y, .int .i64 n, .slice a2 N c2]) ⟨X, Y, n, rs⟩ := hX.o
            obtain ⟨⟨⟨q0, q1⟩, q2, q3⟩, -, hk4⟩ := storedB pz (.int .i64 X) (.int .i64 Y) (.int .i64 n) (.slice a2 N c2)
            replace q0 := Lib.hid q0
            replace q1 := Lib.hid q1
            replace q2 := Lib.hid q2
            replace q3 := Lib.hid q3
            have hc9 := CurR.off hcr hk4 (fun k e => by omega)
            have hfin := Lib.hid (And.intro ((hO.stored pz (.int .i64 X) (.int .i64 Y) (.int .i64 n) (.slice a2 N c2)).mono (show w.heap.size ≤ lo by omega)) (And.intro (show (rs : List (List Int)).length ≤ 16 by have := hl7.out; omega) (And.intro (hc9.more (show _ ≤ K + 3000 by omega)) (keptc (F := fun k => k = cg) (keptc (F := fun k => k = cg) (kept0 hA0 |>.mono fun _ f => f.elim) hkr (fun k e1 e2 => by rcases e2 with e2 | e2 <;> omega)) hk4 (fun k e1 e2 => by omega)))))
            clear pz hO hX hkr hk4 hcr hc9 hP p0 hA0
            go_wp2
            refine bodyPost_ret (v := .agg #[.int .i64 X, .int .i64 Y, .int .i64 n, .slice a2 N c2]) (by simp [results, Try.results73, go_sem, q0.out, q1.out, q2.out, q3.out]) rfl (by first | exact ⟨_, _, rfl, hfin.out.1, hfin.out.2.1, hfin.out.2.2⟩ | exact ⟨_, rfl, _, hfin.out.1, hfin.out.2.1, hfin.out.2.2⟩)
          obtain ⟨⟨x0, x1, x2, x3⟩, -⟩ := blk4 hY.box
          obtain ⟨⟨y0, y1, y2, y3⟩, -⟩ := blk4 hX.box
          go_wp2_with fail
          refine (c_l2Mix _ _ ⟨X, Y, n, rs⟩ ⟨X, Y, nz, rz⟩ N hN _ hX.o.rd hY.o.rd hsh.out hs5).mono ?_
          rintro e w8 ⟨v5, r5, rfl, hO5, hr5, hB5⟩
          clear hY hb5 hl5 hs5 x0 x1 x2 x3 y0 y1 y2 y3 hly hlx hlz
          obtain ⟨n5, rs5, a5, c5, e5, hO, hsh5⟩ := BoxO.parts hO5 hr5
          rw [e5]
          clear hO5 hr5 e5 r5
          have hlz : lo ≤ w8.heap.size := by have := hX.lt; have := hX.low; have := hB5.size; omega
          have hly := hX.lt
          have hlx := hX.low
          replace hX := hX.below hB5
          replace hP := hP.below hB5
          replace hcr := hcr.below hB5
          replace hkr := hkr.trans (kept0 hB5 |>.mono (G := fun k => k = cg ∨ lo ≤ k) fun _ f => f.elim)
          clear hB5
          replace hsh := hsh5
          -- the box ⟨X, Y, NN, RS⟩ (fact hO, in W) goes into the box's cells; XF: the fact of the cells
          obtain ⟨⟨z0, z1, z2, z3⟩, f0, f1, f2, f3⟩ := blk4 hX.box
          obtain ⟨hX9, hk9⟩ := assign0 hX.box hX.low hO (by omega)
          have hP9 := hP.stored hX.box (.int .i64 X) (.int .i64 Y) (.int .i64 n5) (.slice a5 N c5)
          have hc9 := hcr.off hk9 (fun k e => by omega)
          have hr9 := hkr.trans (hk9.mono fun k e => (.inr (by omega) : k = cg ∨ lo ≤ k))
          clear hX hP hcr hkr hk9 hO
          go_upto_region 20 with fail
          obtain ⟨w9, hw9⟩ : ∃ z, z = (((w8.setCell ⟨gb, 0, none⟩ (.int .i64 X)).setCell ⟨gb, 1, none⟩ (.int .i64 Y)).setCell ⟨gb, 2, none⟩ (.int .i64 n5)).setCell ⟨gb, 3, none⟩ (.slice a5 N c5) := ⟨_, rfl⟩
          rw [← hw9] at hX9 hP9 hc9 hr9 ⊢
          try rw [← hw9] at hY
          clear hw9 f0 f1 f2 f3 z0 z1 z2 z3
          have hX := hX9
          have hP := hP9
          have hcr := hc9
          have hkr := hr9
          clear hX9 hP9 hc9 hr9
          have hl7 : (rs5 : List (List Int)).length = N := hsh.out.1
          replace hl7 := Lib.hid hl7
          obtain ⟨⟨b0, b1, b2, b3⟩, -⟩ := blk4 hX.box
          have pz := (hkr.block w.heap.size (by omega) (by omega)).trans p0
          obtain ⟨⟨i0, i1, i2, i3⟩, g0, g1, g2, g3⟩ := blk4 pz
          have hO : BoxO w9 lo (.agg #[.int .i64 X, .int .i64 Y, .int .i64 n5, .slice a5 N c5]) ⟨X, Y, n5, rs5⟩ := hX.o
          obtain ⟨⟨⟨q0, q1⟩, q2, q3⟩, -, hk4⟩ := storedB pz (.int .i64 X) (.int .i64 Y) (.int .i64 n5) (.slice a5 N c5)
          replace q0 := Lib.hid q0
          replace q1 := Lib.hid q1
          replace q2 := Lib.hid q2
          replace q3 := Lib.hid q3
          have hc9 := CurR.off hcr hk4 (fun k e => by omega)
          have hfin := Lib.hid (And.intro ((hO.stored pz (.int .i64 X) (.int .i64 Y) (.int .i64 n5) (.slice a5 N c5)).mono (show w.heap.size ≤ lo by omega)) (And.intro (show (rs5 : List (List Int)).length ≤ 16 by have := hl7.out; omega) (And.intro (hc9.more (show _ ≤ K + 3000 by omega)) (keptc (F := fun k => k = cg) (keptc (F := fun k => k = cg) (kept0 hA0 |>.mono fun _ f => f.elim) hkr (fun k e1 e2 => by rcases e2 with e2 | e2 <;> omega)) hk4 (fun k e1 e2 => by omega)))))
          clear pz hO hX hkr hk4 hcr hc9 hP p0 hA0
          go_wp2
          refine bodyPost_ret (v := .agg #[.int .i64 X, .int .i64 Y, .int .i64 n5, .slice a5 N c5]) (by simp [results, Try.results73, go_sem, q0.out, q1.out, q2.out, q3.out]) rfl (by first | exact ⟨_, _, rfl, hfin.out.1, hfin.out.2.1, hfin.out.2.2⟩ | exact ⟨_, rfl, _, hfin.out.1, hfin.out.2.1, hfin.out.2.2⟩)
        case true =>
          clear hlw
          have hlz : lo ≤ w5.heap.size := by have := hX.lt; have := hX.low; omega
          have hlx := hX.low
          have hly := hX.lt
          go_wp2_with fail
          refine (c_l2Sum X Y ⟨hXX.2, hYY.2⟩ _).mono ?_
          rintro e w6 ⟨v6, r6, rfl, hO6, hr6, hB6⟩
          replace hX := hX.below hB6
          replace hP := hP.below hB6
          replace hcr := hcr.below hB6
          replace hkr := hkr.trans (kept0 hB6 |>.mono (G := fun k => k = cg ∨ lo ≤ k) fun _ f => f.elim)
          have hz6 := hB6.size
          replace hO6 := hO6.mono hlz
          clear hB6
          go_wp2_with fail
          refine (c_pick cg _ M _ hcr (by omega) (by omega)).mono ?_
          rintro e w7 ⟨x7, rfl, hx7, hc7, hk7⟩
          replace hX := hX.off hk7 fun k e => by omega
          replace hP := hP.off hk7 fun k e => by omega
          replace hO6 := hO6.off hk7 fun k e => by omega
          replace hkr := hkr.trans (hk7.mono fun k e => (.inl e : k = cg ∨ lo ≤ k))
          have hcr := hc7
          have hz7 := hk7.size
          have hx7' : x7 < M := by omega
          clear hc7 hk7 hx7
          have hx8 : x7 < PL.length := by rw [hPl.out]; exact hx7'
          obtain ⟨uu, huc, hui⟩ := rowsB_at (OwnR.b hP) x7 hx8
          have hpm := Lib.hid (hPb.out _ (List.getElem_mem hx8))
          obtain ⟨pl, hpl⟩ : ∃ z, z = PL[x7] := ⟨_, rfl⟩
          rw [← hpl] at hui hpm
          clear hpl hx8
          go_wp2_with fail
          refine (c_l2Flip v6 uu r6 pl X Y hXX.2 hYY.2 _ hO6.rd hr6.1 hr6.2.1 hr6.2.2 hui.1 hpm.out.1 hpm.out.2).mono ?_
          rintro e w8 ⟨v8, r8, rfl, hO8, hr8, hB8⟩
          replace hX := hX.below hB8
          replace hP := hP.below hB8
          replace hcr := hcr.below hB8
          replace hkr := hkr.trans (kept0 hB8 |>.mono (G := fun k => k = cg ∨ lo ≤ k) fun _ f => f.elim)
          have hz8 := hB8.size
          rw [← hNe.out] at hr8
          obtain ⟨n8, rs8, a8, c8, e8, hO, hsh8⟩ := BoxO.parts (hO8.mono (show lo ≤ w7.heap.size by omega)) hr8
          subst e8
          clear hB8 hO8 hr8 r8 huc hui hpm hO6 hr6
          obtain ⟨hY, hA⟩ := boxX_new (x := X) (y := Y) (n := n8) hO.inner (show lo ≤ w8.heap.size by omega)
          obtain ⟨gs, hgs⟩ : ∃ z, z = w8.heap.size := ⟨_, rfl⟩
          obtain ⟨w9, hw9⟩ : ∃ z, z = w8.alloc (.cells #[.int .i64 X, .int .i64 Y, .int .i64 n8, .slice a8 N c8] 50) := ⟨_, rfl⟩
          rw [← hw9, ← hgs] at hY
          rw [← hw9] at hA
          replace hX := hX.below hA
          replace hP := hP.below hA
          replace hcr := hcr.below hA
          replace hkr := hkr.trans (kept0 hA |>.mono (G := fun k => k = cg ∨ lo ≤ k) fun _ f => f.elim)
          clear hA hO
          go_upto_region 11 with fail
          rw [← hw9, ← hgs]
          replace hgs : gb < gs := by omega
          clear hw9 hz8 hz7 hz6 hly hlz
          go_wp2_with fail
          refine (c_pick cg _ 4 _ hcr (by omega) (by omega)).mono ?_
          rintro e w10 ⟨q1, rfl, hq1', hc7, hk7⟩
          replace hX := hX.off hk7 fun k e => by omega
          replace hY := hY.off hk7 fun k e => by omega
          replace hP := hP.off hk7 fun k e => by omega
          replace hkr := hkr.trans (hk7.mono fun k e => (.inl e : k = cg ∨ lo ≤ k))
          have hcr := hc7.more (show _ ≤ K + 400 by omega)
          clear hc7 hk7
          have hq4 : 1 + q1 ≤ 4 := by omega
          clear hq1' hlx
          go_upto_region 12 with fail
          go_loopw [11] (fun i wr => ∃ (q : Nat) (n : Int) (rs : List (List Int)) (rv : Value), q ≤ 4 ∧ i = .int .i64 q ∧ BoxX wr lo gb rv ⟨X, Y, n, rs⟩ ∧ Hid (Sh ⟨X, Y, n, rs⟩ N) ∧ BoxX wr lo gs (.slice a8 N c8) ⟨X, Y, n8, rs8⟩ ∧ Rows0 wr lo (.slice (some ⟨gp, 0, none⟩) M cp) PL ∧ CurR wr cg (K + 400) ∧ KeptOff (fun k => k = cg ∨ lo ≤ k) w0 wr) (fun i _ => (intOf i).toNat)
          case atStart => exact ⟨1 + q1, n, rs, _, hq4, by go_num, hX, hsh, hY, hP, hcr, hkr⟩
          case round =>
            clear hX hP hcr hkr hsh hY
            obtain ⟨q, n, rs, rv, hq, rfl, hX, hsh, hY, hP, hcr, hkr⟩ := hrel
            obtain ⟨a2, c2, e2, -⟩ := (OwnR.rows hX.row).out
            have hl2 : rs.length = N := hsh.out.1
            rw [show (BoxD.mk (X : Int) Y n rs).r = rs from rfl, hl2] at e2
            subst e2
            clear hl2
            by_cases hq0 : 0 < q
            · have hd3 : decide ((q : Int) > 0) = true := by simp; omega
              obtain ⟨wp, rfl⟩ : ∃ wp : World, wp = wr := ⟨_, rfl⟩
              obtain ⟨⟨x0, x1, x2, x3⟩, -⟩ := blk4 hY.box
              obtain ⟨⟨y0, y1, y2, y3⟩, -⟩ := blk4 hX.box
              go_wp2_with fail
              refine (c_l2Mix _ _ ⟨X, Y, n, rs⟩ ⟨X, Y, n8, rs8⟩ N hN _ hX.o.rd hY.o.rd hsh.out hsh8.out).mono ?_
              rintro e w5 ⟨v5, r5, rfl, hO5, hr5, hB5⟩
              replace hY := hY.below hB5
              clear x0 x1 x2 x3 y0 y1 y2 y3
              obtain ⟨n5, rs5, a5, c5, e5, hO, hsh5⟩ := BoxO.parts hO5 hr5
              rw [e5]
              clear hO5 hr5 e5 r5
              have hlz : lo ≤ w5.heap.size := by have := hX.lt; have := hX.low; have := hB5.size; omega
              have hly := hX.lt
              have hlx := hX.low
              replace hX := hX.below hB5
              replace hP := hP.below hB5
              replace hcr := hcr.below hB5
              replace hkr := hkr.trans (kept0 hB5 |>.mono (G := fun k => k = cg ∨ lo ≤ k) fun _ f => f.elim)
              clear hB5
              replace hsh := hsh5
              replace hY := hY.stored hX.box (show gs ≠ gb by omega) (.int .i64 X) (.int .i64 Y) (.int .i64 n5) (.slice a5 N c5)
              -- the box ⟨X, Y, NN, RS⟩ (fact hO, in W) goes into the box's cells; XF: the fact of the cells
              obtain ⟨⟨z0, z1, z2, z3⟩, f0, f1, f2, f3⟩ := blk4 hX.box
              obtain ⟨hX9, hk9⟩ := assign0 hX.box hX.low hO (by omega)
              have hP9 := hP.stored hX.box (.int .i64 X) (.int .i64 Y) (.int .i64 n5) (.slice a5 N c5)
              have hc9 := hcr.off hk9 (fun k e => by omega)
              have hr9 := hkr.trans (hk9.mono fun k e => (.inr (by omega) : k = cg ∨ lo ≤ k))
              clear hX hP hcr hkr hk9 hO
              go_upto_region 13 with fail
              obtain ⟨w6, hw9⟩ : ∃ z, z = (((w5.setCell ⟨gb, 0, none⟩ (.int .i64 X)).setCell ⟨gb, 1, none⟩ (.int .i64 Y)).setCell ⟨gb, 2, none⟩ (.int .i64 n5)).setCell ⟨gb, 3, none⟩ (.slice a5 N c5) := ⟨_, rfl⟩
              rw [← hw9] at hX9 hP9 hc9 hr9 ⊢
              try rw [← hw9] at hY
              clear hw9 f0 f1 f2 f3 z0 z1 z2 z3
              go_wp2
              go_roundw
              case rel => exact ⟨q - 1, n5, rs5, _, by omega, by first | go_num | exact congrArg (Value.int .i64) (by omega), hX9, hsh, hY, hP9, hc9, hr9⟩
              case measure => simp [intOf]; omega
            · obtain rfl : q = 0 := by omega
              have hd3 : decide (((0 : Nat) : Int) > 0) = false := by simp
              obtain ⟨wp, rfl⟩ : ∃ wp : World, wp = wr := ⟨_, rfl⟩
              go_wp2_with fail
              refine (c_one cg _ 4 _ hcr (by omega) (by omega)).mono ?_
              rintro e w5 ⟨b2, rfl, hc5, hk5⟩
              replace hX := hX.off hk5 fun k e => by omega
              replace hY := hY.off hk5 fun k e => by omega
              replace hP := hP.off hk5 fun k e => by omega
              replace hkr := hkr.trans (hk5.mono fun k e => (.inl e : k = cg ∨ lo ≤ k))
              have hcr := hc5.more (show _ ≤ K + 500 by omega)
              clear hc5 hk5
              have hlw : True := trivial
              cases b2
              case false =>
                clear hY
                -- noise, perhaps; then the end
                obtain ⟨ws, hws⟩ : ∃ z, z = w5 := ⟨_, rfl⟩
                rw [← hws] at hX hP hcr hkr ⊢
                clear hws hlw
                go_wp2_with fail
                refine (c_NoiseBox X Y ⟨hXX, hYY⟩ _).mono ?_
                rintro e w5 ⟨v5, r5, bn, rfl, hO5, hb5, hB5⟩
                have hlz : lo ≤ ws.heap.size := by have := hX.lt; have := hX.low; omega
                have hly := hX.lt
                have hlx := hX.low
                replace hX := hX.below hB5
                replace hP := hP.below hB5
                replace hcr := hcr.below hB5
                replace hkr := hkr.trans (kept0 hB5 |>.mono (G := fun k => k = cg ∨ lo ≤ k) fun _ f => f.elim)
                have hz5 := hB5.size
                replace hO5 := hO5.mono hlz
                rw [← hNe.out] at hb5
                replace hb5 := Lib.hid hb5
                clear hB5
                obtain ⟨xz, yz, nz, rz⟩ := r5
                obtain ⟨va5, e5, hR5⟩ := hO5
                change v5 = .agg #[.int .i64 xz, .int .i64 yz, .int .i64 nz, va5] at e5
                change Rows0 _ _ va5 rz at hR5
                obtain ⟨a5, c5, e6, -⟩ := (OwnR.rows hR5).out
                obtain ⟨l5, hl5⟩ : ∃ z, z = rz.length := ⟨_, rfl⟩
                rw [← hl5] at e6
                replace hl5 := Lib.hid hl5
                subst e6
                subst e5
                obtain ⟨hY, hA⟩ := boxX_new (x := xz) (y := yz) (n := nz) hR5 (show lo ≤ w5.heap.size by omega)
                obtain ⟨gz, hgz⟩ : ∃ z, z = w5.heap.size := ⟨_, rfl⟩
                obtain ⟨w6, hw6⟩ : ∃ z, z = w5.alloc (.cells #[.int .i64 xz, .int .i64 yz, .int .i64 nz, .slice a5 l5 c5] 50) := ⟨_, rfl⟩
                rw [← hw6, ← hgz] at hY
                rw [← hw6] at hA
                replace hX := hX.below hA
                replace hP := hP.below hA
                replace hcr := hcr.below hA
                replace hkr := hkr.trans (kept0 hA |>.mono (G := fun k => k = cg ∨ lo ≤ k) fun _ f => f.elim)
                clear hA hR5
                go_upto_region 18 with fail
                rw [← hw6, ← hgz]
                replace hgz : w5.heap.size ≤ gz ∧ gz ≤ w5.heap.size := by omega
                clear hw6
                cases bn
                · clear hY hb5 hl5
                  have hl7 : (rs : List (List Int)).length = N := hsh.out.1
                  replace hl7 := Lib.hid hl7
                  obtain ⟨⟨b0, b1, b2, b3⟩, -⟩ := blk4 hX.box
                  have pz := (hkr.block w.heap.size (by omega) (by omega)).trans p0
                  obtain ⟨⟨i0, i1, i2, i3⟩, g0, g1, g2, g3⟩ := blk4 pz
                  have hO : BoxO w6 lo (.agg #[.int .i64 X, .int .i64 Y, .int .i64 n, .slice a2 N c2]) ⟨X, Y, n, rs⟩ := hX.o
                  obtain ⟨⟨⟨q0, q1⟩, q2, q3⟩, -, hk4⟩ := storedB pz (.int .i64 X) (.int .i64 Y) (.int .i64 n) (.slice a2 N c2)
                  replace q0 := Lib.hid q0
                  replace q1 := Lib.hid q1
                  replace q2 := Lib.hid q2
                  replace q3 := Lib.hid q3
                  have hc9 := CurR.off hcr hk4 (fun k e => by omega)
                  have hfin := Lib.hid (And.intro ((hO.stored pz (.int .i64 X) (.int .i64 Y) (.int .i64 n) (.slice a2 N c2)).mono (show w.heap.size ≤ lo by omega)) (And.intro (show (rs : List (List Int)).length ≤ 16 by have := hl7.out; omega) (And.intro (hc9.more (show _ ≤ K + 3000 by omega)) (keptc (F := fun k => k = cg) (keptc (F := fun k => k = cg) (kept0 hA0 |>.mono fun _ f => f.elim) hkr (fun k e1 e2 => by rcases e2 with e2 | e2 <;> omega)) hk4 (fun k e1 e2 => by omega)))))
                  clear pz hO hX hkr hk4 hcr hc9 hP p0 hA0
                  go_wp2
                  refine bodyPost_ret (v := .agg #[.int .i64 X, .int .i64 Y, .int .i64 n, .slice a2 N c2]) (by simp [results, Try.results73, go_sem, q0.out, q1.out, q2.out, q3.out]) rfl (by first | exact ⟨_, _, rfl, hfin.out.1, hfin.out.2.1, hfin.out.2.2⟩ | exact ⟨_, rfl, _, hfin.out.1, hfin.out.2.1, hfin.out.2.2⟩)
                obtain ⟨e1, e2, hs5⟩ := hb5.out rfl
                change xz = _ at e1
                change yz = _ at e2
                subst e1 e2
                go_wp2_with fail
                refine (c_one cg _ 4 _ hcr (by omega) (by omega)).mono ?_
                rintro e w7 ⟨b4, rfl, hc7, hk7⟩
                replace hX := hX.off hk7 fun k e => by omega
                replace hY := hY.off hk7 fun k e => by omega
                replace hP := hP.off hk7 fun k e => by omega
                replace hkr := hkr.trans (hk7.mono fun k e => (.inl e : k = cg ∨ lo ≤ k))
                have hcr := hc7
                clear hc7 hk7
                cases b4
                · go_upto_region 20 with fail
                  clear hY hb5 hl5 hs5
                  have hl7 : (rs : List (List Int)).length = N := hsh.out.1
                  replace hl7 := Lib.hid hl7
                  obtain ⟨⟨b0, b1, b2, b3⟩, -⟩ := blk4 hX.box
                  have pz := (hkr.block w.heap.size (by omega) (by omega)).trans p0
                  obtain ⟨⟨i0, i1, i2, i3⟩, g0, g1, g2, g3⟩ := blk4 pz
                  have hO : BoxO w7 lo (.agg #[.int .i64 X, .int .i64 Y, .int .i64 n, .slice a2 N c2]) ⟨X, Y, n, rs⟩ := hX.o
                  obtain ⟨⟨⟨q0, q1⟩, q2, q3⟩, -, hk4⟩ := storedB pz (.int .i64 X) (.int .i64 Y) (.int .i64 n) (.slice a2 N c2)
                  replace q0 := Lib.hid q0
                  replace q1 := Lib.hid q1
                  replace q2 := Lib.hid q2
                  replace q3 := Lib.hid q3
                  have hc9 := CurR.off hcr hk4 (fun k e => by omega)
                  have hfin := Lib.hid (And.intro ((hO.stored pz (.int .i64 X) (.int .i64 Y) (.int .i64 n) (.slice a2 N c2)).mono (show w.heap.size ≤ lo by omega)) (And.intro (show (rs : List (List Int)).length ≤ 16 by have := hl7.out; omega) (And.intro (hc9.more (show _ ≤ K + 3000 by omega)) (keptc (F := fun k => k = cg) (keptc (F := fun k => k = cg) (kept0 hA0 |>.mono fun _ f => f.elim) hkr (fun k e1 e2 => by rcases e2 with e2 | e2 <;> omega)) hk4 (fun k e1 e2 => by omega)))))
                  clear pz hO hX hkr hk4 hcr hc9 hP p0 hA0
                  go_wp2
                  refine bodyPost_ret (v := .agg #[.int .i64 X, .int .i64 Y, .int .i64 n, .slice a2 N c2]) (by simp [results, Try.results73, go_sem, q0.out, q1.out, q2.out, q3.out]) rfl (by first | exact ⟨_, _, rfl, hfin.out.1, hfin.out.2.1, hfin.out.2.2⟩ | exact ⟨_, rfl, _, hfin.out.1, hfin.out.2.1, hfin.out.2.2⟩)
                obtain ⟨⟨x0, x1, x2, x3⟩, -⟩ := blk4 hY.box
                obtain ⟨⟨y0, y1, y2, y3⟩, -⟩ := blk4 hX.box
                go_wp2_with fail
                refine (c_l2Mix _ _ ⟨X, Y, n, rs⟩ ⟨X, Y, nz, rz⟩ N hN _ hX.o.rd hY.o.rd hsh.out hs5).mono ?_
                rintro e w8 ⟨v5, r5, rfl, hO5, hr5, hB5⟩
                clear hY hb5 hl5 hs5 x0 x1 x2 x3 y0 y1 y2 y3 hly hlx hlz
                obtain ⟨n5, rs5, a5, c5, e5, hO, hsh5⟩ := BoxO.parts hO5 hr5
                rw [e5]
                clear hO5 hr5 e5 r5
                have hlz : lo ≤ w8.heap.size := by have := hX.lt; have := hX.low; have := hB5.size; omega
                have hly := hX.lt
                have hlx := hX.low
                replace hX := hX.below hB5
                replace hP := hP.below hB5
                replace hcr := hcr.below hB5
                replace hkr := hkr.trans (kept0 hB5 |>.mono (G := fun k => k = cg ∨ lo ≤ k) fun _ f => f.elim)
                clear hB5
                replace hsh := hsh5
                -- the box ⟨X, Y, NN, RS⟩ (fact hO, in W) goes into the box's cells; XF: the fact of the cells
                obtain ⟨⟨z0, z1, z2, z3⟩, f0, f1, f2, f3⟩ := blk4 hX.box
                obtain ⟨hX9, hk9⟩ := assign0 hX.box hX.low hO (by omega)
                have hP9 := hP.stored hX.box (.int .i64 X) (.int .i64 Y) (.int .i64 n5) (.slice a5 N c5)
                have hc9 := hcr.off hk9 (fun k e => by omega)
                have hr9 := hkr.trans (hk9.mono fun k e => (.inr (by omega) : k = cg ∨ lo ≤ k))
                clear hX hP hcr hkr hk9 hO
                go_upto_region 20 with fail
                obtain ⟨w9, hw9⟩ : ∃ z, z = (((w8.setCell ⟨gb, 0, none⟩ (.int .i64 X)).setCell ⟨gb, 1, none⟩ (.int .i64 Y)).setCell ⟨gb, 2, none⟩ (.int .i64 n5)).setCell ⟨gb, 3, none⟩ (.slice a5 N c5) := ⟨_, rfl⟩
                rw [← hw9] at hX9 hP9 hc9 hr9 ⊢
                try rw [← hw9] at hY
                clear hw9 f0 f1 f2 f3 z0 z1 z2 z3
                have hX := hX9
                have hP := hP9
                have hcr := hc9
                have hkr := hr9
                clear hX9 hP9 hc9 hr9
                have hl7 : (rs5 : List (List Int)).length = N := hsh.out.1
                replace hl7 := Lib.hid hl7
                obtain ⟨⟨b0, b1, b2, b3⟩, -⟩ := blk4 hX.box
                have pz := (hkr.block w.heap.size (by omega) (by omega)).trans p0
                obtain ⟨⟨i0, i1, i2, i3⟩, g0, g1, g2, g3⟩ := blk4 pz
                have hO : BoxO w9 lo (.agg #[.int .i64 X, .int .i64 Y, .int .i64 n5, .slice a5 N c5]) ⟨X, Y, n5, rs5⟩ := hX.o
                obtain ⟨⟨⟨q0, q1⟩, q2, q3⟩, -, hk4⟩ := storedB pz (.int .i64 X) (.int .i64 Y) (.int .i64 n5) (.slice a5 N c5)
                replace q0 := Lib.hid q0
                replace q1 := Lib.hid q1
                replace q2 := Lib.hid q2
                replace q3 := Lib.hid q3
                have hc9 := CurR.off hcr hk4 (fun k e => by omega)
                have hfin := Lib.hid (And.intro ((hO.stored pz (.int .i64 X) (.int .i64 Y) (.int .i64 n5) (.slice a5 N c5)).mono (show w.heap.size ≤ lo by omega)) (And.intro (show (rs5 : List (List Int)).length ≤ 16 by have := hl7.out; omega) (And.intro (hc9.more (show _ ≤ K + 3000 by omega)) (keptc (F := fun k => k = cg) (keptc (F := fun k => k = cg) (kept0 hA0 |>.mono fun _ f => f.elim) hkr (fun k e1 e2 => by rcases e2 with e2 | e2 <;> omega)) hk4 (fun k e1 e2 => by omega)))))
                clear pz hO hX hkr hk4 hcr hc9 hP p0 hA0
                go_wp2
                refine bodyPost_ret (v := .agg #[.int .i64 X, .int .i64 Y, .int .i64 n5, .slice a5 N c5]) (by simp [results, Try.results73, go_sem, q0.out, q1.out, q2.out, q3.out]) rfl (by first | exact ⟨_, _, rfl, hfin.out.1, hfin.out.2.1, hfin.out.2.2⟩ | exact ⟨_, rfl, _, hfin.out.1, hfin.out.2.1, hfin.out.2.2⟩)
              case true =>
                obtain ⟨⟨x0, x1, x2, x3⟩, -⟩ := blk4 hY.box
                have hO := hY.o
                have hlx := hX.low
                clear hsh hY
                have hsh := hsh8
                -- the box ⟨X, Y, NN, RS⟩ (fact hO, in W) goes into the box's cells; XF: the fact of the cells
                obtain ⟨⟨z0, z1, z2, z3⟩, f0, f1, f2, f3⟩ := blk4 hX.box
                obtain ⟨hX9, hk9⟩ := assign0 hX.box hX.low hO (by omega)
                have hP9 := hP.stored hX.box (.int .i64 X) (.int .i64 Y) (.int .i64 n8) (.slice a8 N c8)
                have hc9 := hcr.off hk9 (fun k e => by omega)
                have hr9 := hkr.trans (hk9.mono fun k e => (.inr (by omega) : k = cg ∨ lo ≤ k))
                clear hX hP hcr hkr hk9 hO
                go_upto_region 17 with fail
                obtain ⟨w6, hw9⟩ : ∃ z, z = (((w5.setCell ⟨gb, 0, none⟩ (.int .i64 X)).setCell ⟨gb, 1, none⟩ (.int .i64 Y)).setCell ⟨gb, 2, none⟩ (.int .i64 n8)).setCell ⟨gb, 3, none⟩ (.slice a8 N c8) := ⟨_, rfl⟩
                rw [← hw9] at hX9 hP9 hc9 hr9 ⊢
                try rw [← hw9] at hY
                clear hw9 f0 f1 f2 f3 z0 z1 z2 z3
                have hX := hX9
                have hP := hP9
                have hcr := hc9
                have hkr := hr9
                clear hX9 hP9 hc9 hr9 x0 x1 x2 x3
                -- noise, perhaps; then the end
                obtain ⟨ws, hws⟩ : ∃ z, z = w6 := ⟨_, rfl⟩
                rw [← hws] at hX hP hcr hkr ⊢
                clear hws hlw
                go_wp2_with fail
                refine (c_NoiseBox X Y ⟨hXX, hYY⟩ _).mono ?_
                rintro e w5 ⟨v5, r5, bn, rfl, hO5, hb5, hB5⟩
                have hlz : lo ≤ ws.heap.size := by have := hX.lt; have := hX.low; omega
                have hly := hX.lt
                have hlx := hX.low
                replace hX := hX.below hB5
                replace hP := hP.below hB5
                replace hcr := hcr.below hB5
                replace hkr := hkr.trans (kept0 hB5 |>.mono (G := fun k => k = cg ∨ lo ≤ k) fun _ f => f.elim)
                have hz5 := hB5.size
                replace hO5 := hO5.mono hlz
                rw [← hNe.out] at hb5
                replace hb5 := Lib.hid hb5
                clear hB5
                obtain ⟨xz, yz, nz, rz⟩ := r5
                obtain ⟨va5, e5, hR5⟩ := hO5
                change v5 = .agg #[.int .i64 xz, .int .i64 yz, .int .i64 nz, va5] at e5
                change Rows0 _ _ va5 rz at hR5
                obtain ⟨a5, c5, e6, -⟩ := (OwnR.rows hR5).out
                obtain ⟨l5, hl5⟩ : ∃ z, z = rz.length := ⟨_, rfl⟩
                rw [← hl5] at e6
                replace hl5 := Lib.hid hl5
                subst e6
                subst e5
                obtain ⟨hY, hA⟩ := boxX_new (x := xz) (y := yz) (n := nz) hR5 (show lo ≤ w5.heap.size by omega)
                obtain ⟨gz, hgz⟩ : ∃ z, z = w5.heap.size := ⟨_, rfl⟩
                obtain ⟨w6, hw6⟩ : ∃ z, z = w5.alloc (.cells #[.int .i64 xz, .int .i64 yz, .int .i64 nz, .slice a5 l5 c5] 50) := ⟨_, rfl⟩
                rw [← hw6, ← hgz] at hY
                rw [← hw6] at hA
                replace hX := hX.below hA
                replace hP := hP.below hA
                replace hcr := hcr.below hA
                replace hkr := hkr.trans (kept0 hA |>.mono (G := fun k => k = cg ∨ lo ≤ k) fun _ f => f.elim)
                clear hA hR5
                go_upto_region 18 with fail
                rw [← hw6, ← hgz]
                replace hgz : w5.heap.size ≤ gz ∧ gz ≤ w5.heap.size := by omega
                clear hw6
                cases bn
                · clear hY hb5 hl5
                  have hl7 : (rs8 : List (List Int)).length = N := hsh.out.1
                  replace hl7 := Lib.hid hl7
                  obtain ⟨⟨b0, b1, b2, b3⟩, -⟩ := blk4 hX.box
                  have pz := (hkr.block w.heap.size (by omega) (by omega)).trans p0
                  obtain ⟨⟨i0, i1, i2, i3⟩, g0, g1, g2, g3⟩ := blk4 pz
                  have hO : BoxO w6 lo (.agg #[.int .i64 X, .int .i64 Y, .int .i64 n8, .slice a8 N c8]) ⟨X, Y, n8, rs8⟩ := hX.o
                  obtain ⟨⟨⟨q0, q1⟩, q2, q3⟩, -, hk4⟩ := storedB pz (.int .i64 X) (.int .i64 Y) (.int .i64 n8) (.slice a8 N c8)
                  replace q0 := Lib.hid q0
                  replace q1 := Lib.hid q1
                  replace q2 := Lib.hid q2
                  replace q3 := Lib.hid q3
                  have hc9 := CurR.off hcr hk4 (fun k e => by omega)
                  have hfin := Lib.hid (And.intro ((hO.stored pz (.int .i64 X) (.int .i64 Y) (.int .i64 n8) (.slice a8 N c8)).mono (show w.heap.size ≤ lo by omega)) (And.intro (show (rs8 : List (List Int)).length ≤ 16 by have := hl7.out; omega) (And.intro (hc9.more (show _ ≤ K + 3000 by omega)) (keptc (F := fun k => k = cg) (keptc (F := fun k => k = cg) (kept0 hA0 |>.mono fun _ f => f.elim) hkr (fun k e1 e2 => by rcases e2 with e2 | e2 <;> omega)) hk4 (fun k e1 e2 => by omega)))))
                  clear pz hO hX hkr hk4 hcr hc9 hP p0 hA0
                  go_wp2
                  refine bodyPost_ret (v := .agg #[.int .i64 X, .int .i64 Y, .int .i64 n8, .slice a8 N c8]) (by simp [results, Try.results73, go_sem, q0.out, q1.out, q2.out, q3.out]) rfl (by first | exact ⟨_, _, rfl, hfin.out.1, hfin.out.2.1, hfin.out.2.2⟩ | exact ⟨_, rfl, _, hfin.out.1, hfin.out.2.1, hfin.out.2.2⟩)
                obtain ⟨e1, e2, hs5⟩ := hb5.out rfl
                change xz = _ at e1
                change yz = _ at e2
                subst e1 e2
                go_wp2_with fail
                refine (c_one cg _ 4 _ hcr (by omega) (by omega)).mono ?_
                rintro e w7 ⟨b4, rfl, hc7, hk7⟩
                replace hX := hX.off hk7 fun k e => by omega
                replace hY := hY.off hk7 fun k e => by omega
                replace hP := hP.off hk7 fun k e => by omega
                replace hkr := hkr.trans (hk7.mono fun k e => (.inl e : k = cg ∨ lo ≤ k))
                have hcr := hc7
                clear hc7 hk7
                cases b4
                · go_upto_region 20 with fail
                  clear hY hb5 hl5 hs5
                  have hl7 : (rs8 : List (List Int)).length = N := hsh.out.1
                  replace hl7 := Lib.hid hl7
                  obtain ⟨⟨b0, b1, b2, b3⟩, -⟩ := blk4 hX.box
                  have pz := (hkr.block w.heap.size (by omega) (by omega)).trans p0
                  obtain ⟨⟨i0, i1, i2, i3⟩, g0, g1, g2, g3⟩ := blk4 pz
                  have hO : BoxO w7 lo (.agg #[.int .i64 X, .int .i64 Y, .int .i64 n8, .slice a8 N c8]) ⟨X, Y, n8, rs8⟩ := hX.o
                  obtain ⟨⟨⟨q0, q1⟩, q2, q3⟩, -, hk4⟩ := storedB pz (.int .i64 X) (.int .i64 Y) (.int .i64 n8) (.slice a8 N c8)
                  replace q0 := Lib.hid q0
                  replace q1 := Lib.hid q1
                  replace q2 := Lib.hid q2
                  replace q3 := Lib.hid q3
                  have hc9 := CurR.off hcr hk4 (fun k e => by omega)
                  have hfin := Lib.hid (And.intro ((hO.stored pz (.int .i64 X) (.int .i64 Y) (.int .i64 n8) (.slice a8 N c8)).mono (show w.heap.size ≤ lo by omega)) (And.intro (show (rs8 : List (List Int)).length ≤ 16 by have := hl7.out; omega) (And.intro (hc9.more (show _ ≤ K + 3000 by omega)) (keptc (F := fun k => k = cg) (keptc (F := fun k => k = cg) (kept0 hA0 |>.mono fun _ f => f.elim) hkr (fun k e1 e2 => by rcases e2 with e2 | e2 <;> omega)) hk4 (fun k e1 e2 => by omega)))))
                  clear pz hO hX hkr hk4 hcr hc9 hP p0 hA0
                  go_wp2
                  refine bodyPost_ret (v := .agg #[.int .i64 X, .int .i64 Y, .int .i64 n8, .slice a8 N c8]) (by simp [results, Try.results73, go_sem, q0.out, q1.out, q2.out, q3.out]) rfl (by first | exact ⟨_, _, rfl, hfin.out.1, hfin.out.2.1, hfin.out.2.2⟩ | exact ⟨_, rfl, _, hfin.out.1, hfin.out.2.1, hfin.out.2.2⟩)
                obtain ⟨⟨x0, x1, x2, x3⟩, -⟩ := blk4 hY.box
                obtain ⟨⟨y0, y1, y2, y3⟩, -⟩ := blk4 hX.box
                go_wp2_with fail
                refine (c_l2Mix _ _ ⟨X, Y, n8, rs8⟩ ⟨X, Y, nz, rz⟩ N hN _ hX.o.rd hY.o.rd hsh.out hs5).mono ?_
                rintro e w8 ⟨v5, r5, rfl, hO5, hr5, hB5⟩
                clear hY hb5 hl5 hs5 x0 x1 x2 x3 y0 y1 y2 y3 hly hlx hlz
                obtain ⟨n5, rs5, a5, c5, e5, hO, hsh5⟩ := BoxO.parts hO5 hr5
                rw [e5]
                clear hO5 hr5 e5 r5
                have hlz : lo ≤ w8.heap.size := by have := hX.lt; have := hX.low; have := hB5.size; omega
                have hly := hX.lt
                have hlx := hX.low
                replace hX := hX.below hB5
                replace hP := hP.below hB5
                replace hcr := hcr.below hB5
                replace hkr := hkr.trans (kept0 hB5 |>.mono (G := fun k => k = cg ∨ lo ≤ k) fun _ f => f.elim)
                clear hB5
                replace hsh := hsh5
                -- the box ⟨X, Y, NN, RS⟩ (fact hO, in W) goes into the box's cells; XF: the fact of the cells
                obtain ⟨⟨z0, z1, z2, z3⟩, f0, f1, f2, f3⟩ := blk4 hX.box
                obtain ⟨hX9, hk9⟩ := assign0 hX.box hX.low hO (by omega)
                have hP9 := hP.stored hX.box (.int .i64 X) (.int .i64 Y) (.int .i64 n5) (.slice a5 N c5)
                have hc9 := hcr.off hk9 (fun k e => by omega)
                have hr9 := hkr.trans (hk9.mono fun k e => (.inr (by omega) : k = cg ∨ lo ≤ k))
                clear hX hP hcr hkr hk9 hO
                go_upto_region 20 with fail
                obtain ⟨w9, hw9⟩ : ∃ z, z = (((w8.setCell ⟨gb, 0, none⟩ (.int .i64 X)).setCell ⟨gb, 1, none⟩ (.int .i64 Y)).setCell ⟨gb, 2, none⟩ (.int .i64 n5)).setCell ⟨gb, 3, none⟩ (.slice a5 N c5) := ⟨_, rfl⟩
                rw [← hw9] at hX9 hP9 hc9 hr9 ⊢
                try rw [← hw9] at hY
                clear hw9 f0 f1 f2 f3 z0 z1 z2 z3
                have hX := hX9
                have hP := hP9
                have hcr := hc9
                have hkr := hr9
                clear hX9 hP9 hc9 hr9
                have hl7 : (rs5 : List (List Int)).length = N := hsh.out.1
                replace hl7 := Lib.hid hl7
                obtain ⟨⟨b0, b1, b2, b3⟩, -⟩ := blk4 hX.box
                have pz := (hkr.block w.heap.size (by omega) (by omega)).trans p0
                obtain ⟨⟨i0, i1, i2, i3⟩, g0, g1, g2, g3⟩ := blk4 pz
                have hO : BoxO w9 lo (.agg #[.int .i64 X, .int .i64 Y, .int .i64 n5, .slice a5 N c5]) ⟨X, Y, n5, rs5⟩ := hX.o
                obtain ⟨⟨⟨q0, q1⟩, q2, q3⟩, -, hk4⟩ := storedB pz (.int .i64 X) (.int .i64 Y) (.int .i64 n5) (.slice a5 N c5)
                replace q0 := Lib.hid q0
                replace q1 := Lib.hid q1
                replace q2 := Lib.hid q2
                replace q3 := Lib.hid q3
                have hc9 := CurR.off hcr hk4 (fun k e => by omega)
                have hfin := Lib.hid (And.intro ((hO.stored pz (.int .i64 X) (.int .i64 Y) (.int .i64 n5) (.slice a5 N c5)).mono (show w.heap.size ≤ lo by omega)) (And.intro (show (rs5 : List (List Int)).length ≤ 16 by have := hl7.out; omega) (And.intro (hc9.more (show _ ≤ K + 3000 by omega)) (keptc (F := fun k => k = cg) (keptc (F := fun k => k = cg) (kept0 hA0 |>.mono fun _ f => f.elim) hkr (fun k e1 e2 => by rcases e2 with e2 | e2 <;> omega)) hk4 (fun k e1 e2 => by omega)))))
                clear pz hO hX hkr hk4 hcr hc9 hP p0 hA0
                go_wp2
                refine bodyPost_ret (v := .agg #[.int .i64 X, .int .i64 Y, .int .i64 n5, .slice a5 N c5]) (by simp [results, Try.results73, go_sem, q0.out, q1.out, q2.out, q3.out]) rfl (by first | exact ⟨_, _, rfl, hfin.out.1, hfin.out.2.1, hfin.out.2.2⟩ | exact ⟨_, rfl, _, hfin.out.1, hfin.out.2.1, hfin.out.2.2⟩)
end Go.Proofs.Ytjeaeninpmaoiaa
