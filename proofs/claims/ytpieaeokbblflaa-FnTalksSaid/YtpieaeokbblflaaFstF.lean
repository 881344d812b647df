/- FirstSplit of the program; conditions: none. -/
import Derived.Test.YtpieaeokbblflaaFstI
import Derived.Test.YtpieaeokbblflaaFstM
namespace Go.Proofs.Ytpieaeokbblflaa
open Go.RowKit

set_option maxRecDepth 100000 in
theorem c_bitsOf (p n : Nat) (w : World) (hn : n ≤ 4) (hp : p < 16) :
    Calls Try.prog 131 #[.int .i64 (p : Int), .int .i64 (n : Int)] w fun e w' => ∃ v', e = .returned v' ∧ OwnI w' w.heap.size v' (bitsL n p) ∧ Below w.heap.size w w' := by
  go_enter Try.func131, Try.ntmps131
  go_wp2_with fail
  go_loopw [5, 9] (fun v i wr => ∃ k : Nat, k ≤ n ∧ i = .int .i64 k ∧ OwnI wr w.heap.size v (bitsL k p) ∧ Below w.heap.size w wr) (fun _ i _ => n - (intOf i).toNat)
  case atStart => exact ⟨0, Nat.zero_le _, rfl, own_empty _ _ (Nat.le_refl _), (Below.refl _ _).alloc (Nat.le_refl _) _⟩
  case round =>
    obtain ⟨k, hk, rfl, hown, hB⟩ := hrel
    have hsz := hB.size
    by_cases hlt : k < n
    · have hdk : decide ((k : Int) < (n : Int)) = true := by simp; omega
      have hE := Lib.hid (and1_div p k (by omega))
      go_wp2_with (at_builtin; refine wp_append_int _ _ rfl _ _ rfl w.heap.size _ _ rfl hown rfl (by first | rfl | simp) (by rw [bitsL_len]; omega) hsz ?_; intro v' w1 hown1 _ hB1 _)
      rw [hE.out, show bitsL k p ++ [bitAt k p] = bitsL (k + 1) p from (mapR_succ _ _).symm] at hown1
      have hB2 := hB.trans hB1
      go_roundw
      case rel => first | exact ⟨k + 1, by omega, by go_num, hown1, hB2⟩ | ((repeat apply Exists.intro); exact ⟨⟨k + 1, by omega, rfl, hown1, hB2⟩, rfl⟩)
      case measure => simp [intOf]; omega
    · obtain rfl : k = n := by omega
      go_wp2
      go_ret
      exact ⟨_, rfl, hown, hB⟩

set_option maxRecDepth 100000 in
set_option maxHeartbeats 4000000 in
theorem c_said {t : List (List Int)} {v : Value} {B gb mb : Nat} (ht : taskB t = true) (s p : Nat) (hs : s = 0 ∨ s = 1) (hp : p < 16) (w : World) (h : TalkM t v B gb mb w) :
    Calls Try.prog 83 #[.pointer (some ⟨gb, 0, none⟩), .int .i64 (s : Int), .int .i64 (p : Int)] w fun e w' => ∃ v', e = .returned v' ∧ OwnI w' w.heap.size v' (bitsL (if s = 0 then t.length else wid t) p) ∧ Below w.heap.size w w' := by
  obtain ⟨adt, capt, rfl, hlt⟩ := h.rows.out
  obtain ⟨hn, hm, hrow, h01⟩ := taskB_yes ht
  obtain ⟨bl0, off0, a0, c0, rfl, hb0, hcell0, hi0⟩ := h.rows.at0 (by omega)
  obtain ⟨⟨z0, z1⟩, -⟩ := blk2 h.1
  have hgb := h.lt.1
  obtain ⟨n, hnd⟩ : ∃ n, n = if s = 0 then t.length else wid t := ⟨_, rfl⟩
  have hn4 : n ≤ 4 := by rw [hnd]; split <;> omega
  have hix : Hid (∀ w', Sem.run Try.prog (Instr.index 76 (.agg #[.int .i64 (t.length : Int), .int .i64 (wid t : Int)]) (.int .i64 (s : Int))) w' = .ok (.int .i64 (n : Int)) w') := Lib.hid (by
    intro w'
    rcases hs with rfl | rfl
    · rw [hnd, if_pos rfl]; exact ixm0 _ _ _
    · rw [hnd, if_neg (by decide)]; exact ixm1 _ _ _)
  rw [← hnd]
  replace hnd := Lib.hid hnd
  replace h := Lib.hid h
  have hix2 := hix.out
  clear hi0 h01 hrow
  go_enter Try.func83, Try.ntmps83
  go_wp2_with fail
  refine wp_region_rk (by kernel_rfl) [none, none, none, none, none, none, some 17, some 0, some 1, some 2, some 3, some 4, some 5, some 6, some 7, some 8, some 9, some 10, some 11, some 12, some 13, some 14, some 15, some 16] 17 (by kernel_rfl) (by kernel_rfl) (by kernel_rfl) _ rfl w.heap.size [rkV (.int .i64 (p : Int)), rkV (.pointer (some ⟨gb, 0, none⟩)), rkV (.pointer (some ⟨gb, 0, none⟩)), rkV (.pointer (some ⟨gb, 0, none⟩)), rkV (.slice (some ⟨bl0, off0, none⟩) t.length capt), rkV (.int .i64 (t.length : Int)), rkV (.pointer (some ⟨gb, 0, none⟩)), rkV (.pointer (some ⟨gb, 0, none⟩)), rkV (.pointer (some ⟨gb, 0, none⟩)), rkV (.slice (some ⟨bl0, off0, none⟩) t.length capt), rkV (.pointer (some ⟨bl0, off0, none⟩)), rkV (.slice a0 (wid t) c0), rkV (.int .i64 (wid t : Int)), rkV (.agg #[.int .i64 (t.length : Int), .int .i64 (wid t : Int)]), rkV (.int .i64 (s : Int)), rkV (.int .i64 (n : Int)), rkL (bitsL n p)] _ rfl (by kernel_rfl) (by simp) ?_ ?_
  · intro i o ho hi u g ww hbw hd
    have hall : Below w.heap.size w ww := hbw
    have hlow : w.heap.size ≤ ww.heap.size := hall.size
    obtain ⟨hcl, hfr⟩ := bcell hbw
    have y_z0 := (hcl _ _ (by omega)).trans z0
    have y_hcell0 := (hcl _ _ (by omega)).trans hcell0
    clear hcl hfr
    rcases i with _ | _ | _ | _ | _ | _ | _ | _ | _ | _ | _ | _ | _ | _ | _ | _ | _ | _ | i
    all_goals try obtain rfl := Option.some.inj ho
    all_goals try simp only [putAll, fillL]
    · go_wp2
      exact ⟨_, rfl, kept0 (Below.refl _ _), rfl⟩
    · go_wp2
      exact ⟨_, rfl, kept0 (Below.refl _ _), rfl⟩
    · have e1 : u 1 = .pointer (some ⟨gb, 0, none⟩) := hd 1 (by decide)
      rw [e1]
      go_wp2
      exact ⟨_, by simp only [putAll, fillL, e1] <;> rfl, kept0 (Below.refl _ _), rfl⟩
    · have e2 : u 2 = .pointer (some ⟨gb, 0, none⟩) := hd 2 (by decide)
      rw [e2]
      go_wp2
      exact ⟨_, by simp only [putAll, fillL, e2] <;> rfl, kept0 (Below.refl _ _), rfl⟩
    · have e3 : u 3 = .pointer (some ⟨gb, 0, none⟩) := hd 3 (by decide)
      rw [e3]
      go_wp2
      exact ⟨_, by simp only [putAll, fillL, e3] <;> rfl, kept0 (Below.refl _ _), rfl⟩
    · have e4 : u 4 = .slice (some ⟨bl0, off0, none⟩) t.length capt := hd 4 (by decide)
      rw [e4]
      go_wp2
      exact ⟨_, by simp only [putAll, fillL, e4] <;> rfl, kept0 (Below.refl _ _), rfl⟩
    · go_wp2
      exact ⟨_, rfl, kept0 (Below.refl _ _), rfl⟩
    · have e6 : u 6 = .pointer (some ⟨gb, 0, none⟩) := hd 6 (by decide)
      rw [e6]
      go_wp2
      exact ⟨_, by simp only [putAll, fillL, e6] <;> rfl, kept0 (Below.refl _ _), rfl⟩
    · have e7 : u 7 = .pointer (some ⟨gb, 0, none⟩) := hd 7 (by decide)
      rw [e7]
      go_wp2
      exact ⟨_, by simp only [putAll, fillL, e7] <;> rfl, kept0 (Below.refl _ _), rfl⟩
    · have e8 : u 8 = .pointer (some ⟨gb, 0, none⟩) := hd 8 (by decide)
      rw [e8]
      go_wp2
      exact ⟨_, by simp only [putAll, fillL, e8] <;> rfl, kept0 (Below.refl _ _), rfl⟩
    · have e9 : u 9 = .slice (some ⟨bl0, off0, none⟩) t.length capt := hd 9 (by decide)
      rw [e9]
      go_wp2
      exact ⟨_, by simp only [putAll, fillL, e9] <;> rfl, kept0 (Below.refl _ _), rfl⟩
    · have e10 : u 10 = .pointer (some ⟨bl0, off0, none⟩) := hd 10 (by decide)
      rw [e10]
      go_wp2
      exact ⟨_, by simp only [putAll, fillL, e10] <;> rfl, kept0 (Below.refl _ _), rfl⟩
    · have e11 : u 11 = .slice a0 (wid t) c0 := hd 11 (by decide)
      rw [e11]
      go_wp2
      exact ⟨_, by simp only [putAll, fillL, e11] <;> rfl, kept0 (Below.refl _ _), rfl⟩
    · have e5 : u 5 = .int .i64 (t.length : Int) := hd 5 (by decide)
      rw [e5]
      have e12 : u 12 = .int .i64 (wid t : Int) := hd 12 (by decide)
      rw [e12]
      go_wp2
      exact ⟨_, by simp only [putAll, fillL, e5, e12] <;> rfl, kept0 (Below.refl _ _), rfl⟩
    · go_wp2
      exact ⟨_, rfl, kept0 (Below.refl _ _), rfl⟩
    · have e13 : u 13 = .agg #[.int .i64 (t.length : Int), .int .i64 (wid t : Int)] := hd 13 (by decide)
      rw [e13]
      have e14 : u 14 = .int .i64 (s : Int) := hd 14 (by decide)
      rw [e14]
      go_wp2
      exact ⟨_, by simp only [putAll, fillL, e13, e14] <;> rfl, kept0 (Below.refl _ _), rfl⟩
    · have e0 : u 0 = .int .i64 (p : Int) := hd 0 (by decide)
      rw [e0]
      have e15 : u 15 = .int .i64 (n : Int) := hd 15 (by decide)
      rw [e15]
      go_wp2_with fail
      refine (c_bitsOf p n _ hn4 hp).mono ?_
      rintro e wn ⟨vn, rfl, hvn, hbn⟩
      go_wp2
      exact ⟨_, by simp only [putAll, fillL, e0, e15] <;> rfl, kept0 hbn, ⟨hvn.mono hlow, hvn.le, OwnS.lt hvn⟩⟩
    · exact absurd rfl hi
    · simp at ho
  · intro uu gg w5 hbw hR2 hAp
    have d16 : OwnF w5 w.heap.size (InI (gg 16)) (uu 16) (bitsL n p) := hR2 16 (by decide) (by decide)
    simp only [putAll, fillL]
    go_wp2
    go_ret
    exact ⟨_, rfl, d16.1, hbw⟩

theorem mix_need {t : List (List Int)} : mixB t = (taskB t && !(needV t == 0)) := by
  unfold mixB needV
  cases ht : taskB t
  · rfl
  · obtain ⟨hn, hm, -, -⟩ := taskB_yes ht
    have hf1 := full_lt hn
    have hf2 := full_lt hm
    have := need_zero_iff hn.2 hm.2 hf1.1 hf1.2.2 hf2.2.2
    simp only [if_true, Bool.true_and]
    cases hp : plB t (2 ^ t.length - 1) (2 ^ wid t - 1)
    · rw [hp] at this
      have h2 : need t (2 ^ t.length - 1) (2 ^ wid t - 1) ≠ 0 := fun e => by have := this.1 e; cases this
      simp [h2]
    · have h2 := this.2 hp
      simp [h2]

set_option maxRecDepth 100000 in
set_option maxHeartbeats 4000000 in
theorem c_impl_FirstSplit (v : Value) (t : List (List Int)) (w : World) (h : Rows2 w v t) :
    Calls Try.prog 18 #[v] w fun e w' => ∃ v', e = .returned (.tuple #[.int .i64 (fsN t), v', .bool (mixB t)]) ∧ OwnI w' w.heap.size v' (fsL t) ∧ Below w.heap.size w w' := by
  obtain ⟨adt, capt, rfl, hlt⟩ := h.out
  have hmx := mix_need (t := t)
  cases ht : taskB t
  · have hx : Hid (mixB t = false) := Lib.hid (by rw [hmx, ht]; rfl)
    have hN : Hid (fsN t = 0 ∧ fsL t = []) := Lib.hid (by simp [fsN, fsL, hx.out])
    clear hmx
    replace ht := Lib.hid ht
    go_enter Try.func18, Try.ntmps18
    go_wp2_with fail
    refine (c_impl_NeedOf _ t _ h).mono ?_
    rintro e w1 ⟨rfl, hb1⟩
    rw [ht.out]
    go_wp2
    go_ret3
    exact ⟨_, by rw [hx.out, hN.out.1]; rfl, by rw [hN.out.2]; exact own_nil _ _, hb1⟩
  rw [ht, Bool.true_and] at hmx
  obtain ⟨nd, hnd⟩ : ∃ z, z = needV t := ⟨_, rfl⟩
  rw [← hnd] at hmx
  cases h0 : (nd == 0)
  · rw [h0] at hmx
    have hx : Hid (mixB t = true) := Lib.hid (by rw [hmx]; rfl)
    obtain ⟨-, hp⟩ := mix_yes hx.out
    obtain ⟨hn, hm, -, -⟩ := taskB_yes ht
    have hf1 := full_lt hn
    have hf2 := full_lt hm
    have hN : Hid (fsN t = ((firstV t (2 ^ t.length - 1) (2 ^ wid t - 1)).1 : Int) ∧ fsL t = bitsL (if (firstV t (2 ^ t.length - 1) (2 ^ wid t - 1)).1 = 0 then t.length else wid t) (firstV t (2 ^ t.length - 1) (2 ^ wid t - 1)).2) := Lib.hid (by simp [fsN, fsL, hx.out])
    obtain ⟨-, p, hpp⟩ := (first_same hn.2 hm.2 hf1.1 hf2.1 hf1.2.1 hf2.2.1 hf1.2.2 hf2.2.2 hp)
    obtain ⟨U, hU⟩ : ∃ z, z = 2 ^ t.length - 1 := ⟨_, rfl⟩
    obtain ⟨M, hM⟩ : ∃ z, z = 2 ^ wid t - 1 := ⟨_, rfl⟩
    rw [← hU] at hf1 hpp hN
    rw [← hM] at hf2 hpp hN
    obtain ⟨s, hs⟩ : ∃ s, s = (firstV t U M).1 := ⟨_, rfl⟩
    obtain ⟨q, hq⟩ : ∃ q, q = (firstV t U M).2 := ⟨_, rfl⟩
    have hsq : (s = 0 ∧ q ∈ spl t.length U) ∨ (s = 1 ∧ q ∈ spl (wid t) M) := by
      rcases hpp with ⟨e, h⟩ | ⟨e, h⟩ <;> rw [e] at hs hq
      · exact .inl ⟨hs, by rw [hq]; exact h⟩
      · exact .inr ⟨hs, by rw [hq]; exact h⟩
    have hq16 : q < 16 := by rcases hsq with ⟨-, h⟩ | ⟨-, h⟩ <;> have := (spl_mem h).2.1 <;> omega
    have hs01 : s = 0 ∨ s = 1 := by rcases hsq with ⟨h, -⟩ | ⟨h, -⟩ <;> simp [h]
    rw [← hs, ← hq] at hN
    have hc := Lib.hid ht
    replace hU := Lib.hid hU
    replace hM := Lib.hid hM
    replace ht := Lib.hid ht
    replace hs := Lib.hid hs
    replace hq := Lib.hid hq
    replace hnd := Lib.hid hnd
    clear hmx hpp hsq hp
    go_enter Try.func18, Try.ntmps18
    go_wp2_with fail
    refine (c_impl_NeedOf _ t _ h).mono ?_
    rintro e w1 ⟨rfl, hb1⟩
    rw [ht.out, ← hnd.out]
    go_wp2_with fail
    refine (c_newTalkingM _ t _ (h.below hb1)).mono ?_
    rintro e w2 ⟨gb, mb, rfl, hT, hb2⟩
    have hB := bstep hb1 hb2
    go_wp2_with fail
    refine (c_whole gb mb _ _ t _ hT hc.out).mono ?_
    rintro e w3 ⟨rfl, hb3⟩
    have hT3 := hT.below hb3
    have hB3 := bstep hB hb3
    rw [← hU.out, ← hM.out]
    go_wp2_with fail
    refine (c_first hc.out U M hf1.1 hf2.1 hf1.2.1 hf2.2.1 hf1.2.2 hf2.2.2 _ hT3).mono ?_
    rintro e w4 ⟨rfl, hT4, hk4⟩
    rw [← hs.out, ← hq.out]
    have hlt3 := hT3.lt
    have hz1 := hb1.size
    have hB4 := hB3.trans (hk4.below (B := w.heap.size) (fun k hk => by omega) hB3.size)
    go_wp2_with fail
    refine (c_said hc.out s q hs01 hq16 _ hT4).mono ?_
    rintro e w5 ⟨v5, rfl, hv5, hb5⟩
    have hB5 := bstep hB4 hb5
    go_wp2
    go_ret3
    exact ⟨_, by rw [hx.out, hN.out.1]; rfl, by rw [hN.out.2]; exact hv5.mono hB4.size, hB5⟩
  · rw [h0] at hmx
    have hx : Hid (mixB t = false) := Lib.hid (by rw [hmx]; rfl)
    have hN : Hid (fsN t = 0 ∧ fsL t = []) := Lib.hid (by simp [fsN, fsL, hx.out])
    replace hnd := Lib.hid hnd
    replace ht := Lib.hid ht
    clear hmx
    go_enter Try.func18, Try.ntmps18
    go_wp2_with fail
    refine (c_impl_NeedOf _ t _ h).mono ?_
    rintro e w1 ⟨rfl, hb1⟩
    rw [ht.out, ← hnd.out]
    go_wp2
    go_ret3
    exact ⟨_, by rw [hx.out, hN.out.1]; rfl, by rw [hN.out.2]; exact own_nil _ _, hb1⟩
end Go.Proofs.Ytpieaeokbblflaa
