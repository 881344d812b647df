/- Numbers that are drawn for a scene; conditions: none. -/
import Derived.Test.YtiidphlfpiaoeaaDrawSc
import Derived.Test.YtiidphlfpiaoeaaBytes
namespace Go.Proofs.Ytiidphlfpiaoeaa
open Go.RowKit

set_option maxRecDepth 100000 in
set_option maxHeartbeats 4000000 in
theorem c_numbers7 (cg K : Nat) (v : Value) (s : SceneD) (w : World) (hc : CurR w cg K) (hK : K < 1073000000) (h : SceneR w v s) :
    Calls Try.prog 99 #[.pointer (some ⟨cg, 0, none⟩), v] w fun e w' => ∃ v' xs, e = .returned v' ∧ OwnI w' w.heap.size v' xs ∧ xs.length ≤ 14 ∧ CurR w' cg (K + 40) ∧ KeptOff (fun k => k = cg) w w' := by
  have hg := hc.lt
  have hsc := h
  obtain ⟨v1, v2, rfl, hcx, hsu⟩ := id h
  obtain ⟨a1, k1, rfl, l1⟩ := hcx.out
  obtain ⟨a2, k2, rfl, l2, -⟩ := hsu.out
  have hA := (Below.refl w.heap.size w).alloc (Nat.le_refl _) (.cells #[.int .i64 s.n, .slice a1 s.c.length k1, .slice a2 s.s.length k2] 27)
  have pB : (w.alloc (.cells #[.int .i64 s.n, .slice a1 s.c.length k1, .slice a2 s.s.length k2] 27)).heap[w.heap.size]? = some (.cells #[.int .i64 s.n, .slice a1 s.c.length k1, .slice a2 s.s.length k2] 27 (0, 0)) := heap_alloc_at rfl
  obtain ⟨w0, hw0⟩ : ∃ z, z = w.alloc (.cells #[.int .i64 s.n, .slice a1 s.c.length k1, .slice a2 s.s.length k2] 27) := ⟨_, rfl⟩
  have hz0 : w0.heap.size = w.heap.size + 1 := by rw [hw0]; simp
  rw [← hw0] at hA pB
  have hO := own_empty w0 (w.heap.size + 1) (by omega)
  have hA2 := (Below.refl w0.heap.size w0).alloc (Nat.le_refl _) (.cells #[] 3)
  have hc2 := (hc.below hA).below hA2
  have hk2 := ((kept0 hA).mono (G := fun q => q = cg) fun _ f => f.elim).trans ((kept0 hA2).mono fun _ f => f.elim)
  have p2 := blk_later hA2 pB
  clear hA hA2 hcx hsu hc pB h hsc
  go_enter Try.func99, Try.ntmps99
  go_wp2_with (rw [← hw0])
  obtain ⟨w2, hw2⟩ : ∃ z, z = w0.alloc (.cells #[] 3) := ⟨_, rfl⟩
  rw [← hw2] at hO hc2 hk2 p2 ⊢
  clear hw2 hw0
  obtain ⟨⟨z0, -, -⟩, -⟩ := blk3 p2
  go_loopw [5, 6] (fun lv x wr => ∃ (j : Nat) (xs : List Int), j ≤ 13 ∧ x = .int .i64 j ∧ OwnI wr (w.heap.size + 1) lv xs ∧ xs.length ≤ j ∧ CurR wr cg (K + 2 * j) ∧ KeptOff (fun q => q = cg) w wr ∧ wr.cell? ⟨w.heap.size, 0, none⟩ = some (.int .i64 s.n) ∧ w.heap.size < wr.heap.size) (fun _ x _ => 13 - (intOf x).toNat)
  case atStart =>
    have hsz : w0.heap.size ≤ w2.heap.size := by have := hk2.size; have := (Array.getElem?_eq_some_iff.1 p2).1; omega
    exact ⟨0, [], by omega, rfl, hz0 ▸ hO, by simp, hc2.more (by omega), hk2, z0, (Array.getElem?_eq_some_iff.1 p2).1⟩
  case round =>
    clear hO hc2 hk2 z0 p2
    obtain ⟨j, xs, hj, rfl, hOx, hxl, hcx, hkx, y0, hwl⟩ := hrel
    obtain ⟨wo, rfl⟩ : ∃ wo : World, wo = wr := ⟨_, rfl⟩
    obtain ⟨al, kl, rfl, -, -⟩ := hOx.ints.out
    by_cases hgo : (j : Int) < s.n ∧ j < 13
    · have hd1 : decide ((j : Int) < s.n) = true := decide_eq_true hgo.1
      have hd2 : decide ((j : Int) < 13) = true := decide_eq_true (by omega)
      go_wp2_with fail
      refine (c_pick cg _ 2 _ hcx (by omega) (by omega)).mono ?_
      rintro e w4 ⟨b, rfl, hb, hc4, hk4⟩
      have hO4 := own_off (show cg < w.heap.size + 1 by omega) hOx hk4
      have hk5 := hkx.trans hk4
      have hz4 := hk4.size
      have y4 := kcell hk4 y0 (show w.heap.size ≠ cg by omega)
      clear hOx hcx hkx y0 hk4
      go_wp2_with (at_builtin; refine wp_append_int _ (b : Int) rfl _ _ rfl (w.heap.size + 1) _ xs rfl hO4 rfl rfl (by omega) (by omega) ?_; intro v5 w5 hn5 hg5 hB5 _; have hc5 : CurR w5 cg _ := hc4.off (keptOfB hB5 hB5.size) fun q hq => by omega)
      go_roundw
      case rel =>
        have hk6 := keptc hk5 (keptOfB hB5 hB5.size) (F := fun q => q = cg) (fun q e1 e2 => by have e3 : w.heap.size + 1 ≤ q := e2; omega)
        have hne : (Value.slice al xs.length kl).ownBlock ≠ some w.heap.size := fun e => by
          have := (OwnS.lt hO4 _ e).1
          omega
        have y5 : w5.cell? ⟨w.heap.size, 0, none⟩ = some (.int .i64 s.n) := by
          rw [← y4]
          unfold World.cell?
          rw [hg5.block w.heap.size (by omega) (fun e => hne e.symm)]
        exact ⟨j + 1, xs ++ [(b : Int)], by omega, by go_num, hn5, by simp; omega, hc5.more (by omega), hk6, y5, by have := hB5.size; omega⟩
      case measure => simp [intOf]; omega
    · obtain hge | ⟨hlt, hj13⟩ : ¬ (j : Int) < s.n ∨ ((j : Int) < s.n ∧ j = 13) := by omega
      · have hd1 : decide ((j : Int) < s.n) = false := decide_eq_false hge
        go_upto_region 6 with fail
        have hlo : Hid (xs.length ≤ 13) := Lib.hid (by omega)
        have hcy : CurR wo cg (K + 26) := hcx.more (by omega)
        clear hcx
        go_wp2_with fail
        refine (c_one cg _ 30 _ hcy (by omega) (by omega)).mono ?_
        rintro e w4 ⟨b, rfl, hc4, hk4⟩
        have hO4 := own_off (show cg < w.heap.size + 1 by omega) hOx hk4
        have hk5 := hkx.trans hk4
        have hz4 := hk4.size
        clear hOx hkx y0 hk4 hcy
        cases b
        · go_wp2
          go_ret
          exact ⟨_, xs, rfl, OwnI.mono hO4 (by omega), by have := hlo.out; omega, hc4.more (by omega), hk5⟩
        · have hA6 := (Below.refl w4.heap.size w4).alloc (Nat.le_refl _) (.cells #[.int .i64 0, .int .i64 2, .int .i64 (-1)] 3)
          have hl6 := (own_lit w4 0 [0, 2, -1] #[.int .i64 0, .int .i64 2, .int .i64 (-1)] rfl (Nat.zero_le _) (by simp)).ints
          go_wp2_with fail
          refine (c_among cg _ _ [0, 2, -1] _ (hc4.below hA6) (by omega) hl6 (by simp) (by simp) (by intro b off n c e; simp at e; omega)).mono ?_
          rintro e w6 ⟨x, rfl, hx, hc6, hk6⟩
          have hO6 := own_off (show cg < w.heap.size + 1 by omega) (OwnI.below hO4 hA6) hk6
          have hk7 := (hk5.trans ((kept0 hA6).mono fun _ f => f.elim)).trans hk6
          have hz6 := hk6.size
          simp only [World.size_alloc] at hz6
          clear hO4 hA6 hl6 hc4 hk5 hk6 hx
          go_wp2_with (at_builtin; refine wp_append_int _ x rfl _ _ rfl (w.heap.size + 1) _ xs rfl hO6 rfl rfl (by have := hlo.out; omega) (by omega) ?_; intro v5 w5 hn5 hg5 hB5 _; have hc5 : CurR w5 cg _ := hc6.off (keptOfB hB5 hB5.size) fun q hq => by omega)
          have hk8 := keptc hk7 (keptOfB hB5 hB5.size) (F := fun q => q = cg) (fun q e1 e2 => by have e3 : w.heap.size + 1 ≤ q := e2; omega)
          go_ret
          exact ⟨_, xs ++ [x], rfl, hn5.mono (by omega), by have := hlo.out; simp; omega, hc5.more (by omega), hk8⟩
      · have hd1 : decide ((j : Int) < s.n) = true := decide_eq_true hlt
        subst hj13
        have hd2 : decide (((13 : Nat) : Int) < 13) = false := by simp
        go_upto_region 6 with fail
        have hlo : Hid (xs.length ≤ 13) := Lib.hid (by omega)
        have hcy : CurR wo cg (K + 26) := hcx.more (by omega)
        clear hcx
        go_wp2_with fail
        refine (c_one cg _ 30 _ hcy (by omega) (by omega)).mono ?_
        rintro e w4 ⟨b, rfl, hc4, hk4⟩
        have hO4 := own_off (show cg < w.heap.size + 1 by omega) hOx hk4
        have hk5 := hkx.trans hk4
        have hz4 := hk4.size
        clear hOx hkx y0 hk4 hcy
        cases b
        · go_wp2
          go_ret
          exact ⟨_, xs, rfl, OwnI.mono hO4 (by omega), by have := hlo.out; omega, hc4.more (by omega), hk5⟩
        · have hA6 := (Below.refl w4.heap.size w4).alloc (Nat.le_refl _) (.cells #[.int .i64 0, .int .i64 2, .int .i64 (-1)] 3)
          have hl6 := (own_lit w4 0 [0, 2, -1] #[.int .i64 0, .int .i64 2, .int .i64 (-1)] rfl (Nat.zero_le _) (by simp)).ints
          go_wp2_with fail
          refine (c_among cg _ _ [0, 2, -1] _ (hc4.below hA6) (by omega) hl6 (by simp) (by simp) (by intro b off n c e; simp at e; omega)).mono ?_
          rintro e w6 ⟨x, rfl, hx, hc6, hk6⟩
          have hO6 := own_off (show cg < w.heap.size + 1 by omega) (OwnI.below hO4 hA6) hk6
          have hk7 := (hk5.trans ((kept0 hA6).mono fun _ f => f.elim)).trans hk6
          have hz6 := hk6.size
          simp only [World.size_alloc] at hz6
          clear hO4 hA6 hl6 hc4 hk5 hk6 hx
          go_wp2_with (at_builtin; refine wp_append_int _ x rfl _ _ rfl (w.heap.size + 1) _ xs rfl hO6 rfl rfl (by have := hlo.out; omega) (by omega) ?_; intro v5 w5 hn5 hg5 hB5 _; have hc5 : CurR w5 cg _ := hc6.off (keptOfB hB5 hB5.size) fun q hq => by omega)
          have hk8 := keptc hk7 (keptOfB hB5 hB5.size) (F := fun q => q = cg) (fun q e1 e2 => by have e3 : w.heap.size + 1 ≤ q := e2; omega)
          go_ret
          exact ⟨_, xs ++ [x], rfl, hn5.mono (by omega), by have := hlo.out; simp; omega, hc5.more (by omega), hk8⟩
end Go.Proofs.Ytiidphlfpiaoeaa
