/- The contracts of TurnTask on both sides; conditions: none. -/
import Derived.Test.YtpieaeokbblflaaTask
import Derived.Test.YtpieaeokbblflaaBits
namespace Go.Proofs.Ytpieaeokbblflaa
open Go.RowKit

/-- the number at a place of a table -/
def ent (t : List (List Int)) (i j : Nat) : Int := (t.getD i []).getD j 0
theorem ent_eq (t : List (List Int)) (i j : Nat) (hi : i < t.length) (hj : j < t[i].length) : t[i][j] = ent t i j := by simp [ent, List.getD, hi, hj]
/-- the table whose rows are the columns -/
def colL (t : List (List Int)) (j : Nat) : List Int := mapR (fun i => ent t i j) t.length
def turnT (t : List (List Int)) : List (List Int) := if taskB t then mapR (colL t) (wid t) else []

theorem c_l8Task_no (v : Value) (t : List (List Int)) (w : World) (h : Rows2 w v t) :
    Calls Try.prog 66 #[v] w fun e w' => e = .returned (.bool (taskB t)) ∧ Below w.heap.size w w' :=
  (c_l8Task v t w h).mono fun e w' ⟨he, m, hw⟩ => ⟨he, by rw [hw]; exact below_drewN (Below.refl _ _) m⟩

set_option maxHeartbeats 1000000 in
theorem c_spec_TurnTask (v : Value) (t : List (List Int)) (w : World) (h : Rows2 w v t) :
    Calls Try.prog 60 #[v] w fun e w' => ∃ v', e = .returned (.tuple #[v', .bool (taskB t)]) ∧ OwnR w' w.heap.size (fun k => w.heap.size ≤ k ∧ k < w'.heap.size) v' (turnT t) ∧ Below w.heap.size w w' := by
  obtain ⟨ad, cap, rfl, hl⟩ := h.out
  cases ht : taskB t
  · have hF : Hid (turnT t = []) := Lib.hid (by simp [turnT, ht])
    go_enter Try.func60, Try.ntmps60
    go_wp2_with fail
    refine (c_l8Task_no _ _ _ (h.below ((Below.refl _ _).alloc (Nat.le_refl _) _))).mono ?_
    rintro e w1 ⟨rfl, hb1⟩
    have hown := (ownR_empty w w.heap.size (Nat.le_refl _)).below hb1
    have hz := hb1.size
    go_wp2
    go_ret2
    exact ⟨_, rfl, by rw [hF.out]; exact hown.mono (Nat.le_refl _) (fun k hk => ⟨hk.1, by omega⟩), ((Below.refl _ _).alloc (Nat.le_refl _) _).trans (hb1.mono (by simp))⟩
  · obtain ⟨hn, hm, hrow, h01⟩ := taskB_yes ht
    have hF : Hid (turnT t = mapR (colL t) (wid t)) := Lib.hid (by simp [turnT, ht])
    replace hrow := Lib.hid hrow
    replace h01 := Lib.hid h01
    go_enter Try.func60, Try.ntmps60
    go_wp2_with fail
    refine (c_l8Task_no _ _ _ (h.below ((Below.refl _ _).alloc (Nat.le_refl _) _))).mono ?_
    rintro e w1 ⟨rfl, hb1⟩
    have hown := (ownR_empty w w.heap.size (Nat.le_refl _)).below hb1
    have hz := hb1.size
    simp only [World.size_alloc] at hz
    have hown := hown.isIn
    have hb := ((Below.refl w.heap.size w).alloc (Nat.le_refl _) (.cells #[] 31)).trans (hb1.mono (by simp))
    go_wp2_with fail
    go_loopw [4, 5] (fun v j wr => ∃ k : Nat, k ≤ wid t ∧ j = .int .i64 k ∧ OwnR wr w.heap.size (fun k => w.heap.size ≤ k ∧ k < wr.heap.size) v (mapR (colL t) k) ∧ Below w.heap.size w wr) (fun _ j _ => wid t - (intOf j).toNat)
    case atStart => exact ⟨0, Nat.zero_le _, rfl, hown, hb⟩
    case round =>
      obtain ⟨k, hk, rfl, hown, hB⟩ := hrel
      have hsz := hB.size
      have hr := h.below hB
      obtain ⟨bl, off, a0, c0, rfl, hb0, hcell0, hi0⟩ := hr.at0 (by omega)
      by_cases hlt : k < wid t
      · obtain ⟨wo, rfl⟩ : ∃ wo : World, wo = wr := ⟨_, rfl⟩
        go_wp2
        go_loopw [6, 7] (fun v j wr => ∃ i : Nat, i ≤ t.length ∧ j = .int .i64 i ∧ OwnI wr wo.heap.size v (mapR (fun i => ent t i k) i) ∧ Below wo.heap.size wo wr) (fun _ j _ => t.length - (intOf j).toNat)
        case atStart => exact ⟨0, Nat.zero_le _, rfl, own_empty _ _ (Nat.le_refl _), (Below.refl _ _).alloc (Nat.le_refl _) _⟩
        case round =>
          obtain ⟨i, hi, rfl, hrowo, hBo⟩ := hrel
          have hszo := hBo.size
          by_cases hlti : i < t.length
          · obtain ⟨bl', off', a1, c1, e, hb1', hcell1, hi1⟩ := (hr.below hBo).at i hlti
            simp only [Option.some.injEq, Addr.mk.injEq, and_true] at e
            obtain ⟨rfl, rfl⟩ := e
            have hj : k < t[i].length := by rw [hrow.out i hlti]; exact hlt
            obtain ⟨b2, o2, rfl, hb2, hcell2⟩ := hi1.at k hj
            rw [ent_eq t i k hlti hj] at hcell2
            go_wp2_with (at_builtin; refine wp_append_int _ _ rfl _ _ rfl wo.heap.size _ _ rfl hrowo rfl (by first | rfl | simp) (by rw [mapR_len]; omega) hszo ?_; intro v' w2 hown2 _ hB2 _)
            rw [← mapR_succ (fun i => ent t i k)] at hown2
            go_roundw
            case rel => exact ⟨i + 1, by omega, by go_num, hown2, hBo.trans hB2⟩
            case measure => simp [intOf]; omega
          · obtain rfl : i = t.length := by omega
            have hown := hown.below hBo
            obtain ⟨a6, c6, rfl, -, -⟩ := hrowo.ints.out
            go_wp2_with (at_builtin; refine wp_append_row _ _ rfl _ _ rfl w.heap.size _ _ _ rfl hown (colL t k) (hrowo.mono hsz) (fun g hg hf => by have a := OwnS.lt hrowo g hg; have b := hf.2; omega) rfl (by first | rfl | simp) (by rw [mapR_len]; omega) (by omega) ?_; intro v' w2 hown2 _ hB2 _)
            rw [← mapR_succ (colL t)] at hown2
            go_roundw
            case rel => exact ⟨k + 1, by omega, by go_num, hown2, (bstep hB hBo).trans hB2⟩
            case measure => simp [intOf]; omega
      · obtain rfl : k = wid t := by omega
        go_wp2
        go_ret2
        exact ⟨_, rfl, by rw [hF.out]; exact hown, hB⟩

set_option maxHeartbeats 1000000 in
theorem c_impl_TurnTask (v : Value) (t : List (List Int)) (w : World) (h : Rows2 w v t) :
    Calls Try.prog 59 #[v] w fun e w' => ∃ v', e = .returned (.tuple #[v', .bool (taskB t)]) ∧ OwnR w' w.heap.size (fun k => w.heap.size ≤ k ∧ k < w'.heap.size) v' (turnT t) ∧ Below w.heap.size w w' := by
  obtain ⟨ad, cap, rfl, hl⟩ := h.out
  cases ht : taskB t
  · have hF : Hid (turnT t = []) := Lib.hid (by simp [turnT, ht])
    go_enter Try.func59, Try.ntmps59
    go_wp2_with (go_at_call 37; refine (c_impl_IsTask _ _ _ h).mono ?_; rintro e w' ⟨rfl, rfl⟩)
    go_ret2
    exact ⟨_, rfl, by rw [hF.out]; exact ownR_nil _ _ _, Below.refl _ _⟩
  · obtain ⟨hn, hm, hrow, h01⟩ := taskB_yes ht
    have hF : Hid (turnT t = mapR (colL t) (wid t)) := Lib.hid (by simp [turnT, ht])
    replace hrow := Lib.hid hrow
    replace h01 := Lib.hid h01
    obtain ⟨bl0, off0, a0', c0', hd0, hlt0, hcell00, -⟩ := h.at0 (by omega)
    subst hd0
    go_enter Try.func59, Try.ntmps59
    go_wp2_with (go_at_call 37; refine (c_impl_IsTask _ _ _ h).mono ?_; rintro e w' ⟨rfl, rfl⟩)
    go_loopw [4, 16] (fun v j wr => ∃ k : Nat, k ≤ wid t ∧ j = .int .i64 k ∧ OwnR wr w.heap.size (fun k => w.heap.size ≤ k ∧ k < wr.heap.size) v (mapR (colL t) k) ∧ Below w.heap.size w wr) (fun _ j _ => wid t - (intOf j).toNat)
    case atStart => exact ⟨0, Nat.zero_le _, rfl, ownR_empty w w.heap.size (Nat.le_refl _), (Below.refl _ _).alloc (Nat.le_refl _) _⟩
    case round =>
      obtain ⟨k, hk, rfl, hown, hB⟩ := hrel
      have hsz := hB.size
      have hr := h.below hB
      by_cases hlt : k < wid t
      · obtain ⟨wo, rfl⟩ : ∃ wo : World, wo = wr := ⟨_, rfl⟩
        have hd : decide ((k : Int) < (wid t : Int)) = true := by simp; omega
        go_wp2
        go_loopw [6, 22] (fun v j wr => ∃ i : Nat, i ≤ t.length ∧ j = .int .i64 i ∧ OwnI wr wo.heap.size v (mapR (fun i => ent t i k) i) ∧ Below wo.heap.size wo wr) (fun _ j _ => t.length - (intOf j).toNat)
        case atStart => exact ⟨0, Nat.zero_le _, rfl, own_empty _ _ (Nat.le_refl _), (Below.refl _ _).alloc (Nat.le_refl _) _⟩
        case round =>
          obtain ⟨i, hi, rfl, hrowo, hBo⟩ := hrel
          have hszo := hBo.size
          by_cases hlti : i < t.length
          · obtain ⟨bl', off', a1, c1, e, hb1', hcell1, hi1⟩ := (hr.below hBo).at i hlti
            simp only [Option.some.injEq, Addr.mk.injEq, and_true] at e
            obtain ⟨rfl, rfl⟩ := e
            have hj : k < t[i].length := by rw [hrow.out i hlti]; exact hlt
            obtain ⟨b2, o2, rfl, hb2, hcell2⟩ := hi1.at k hj
            rw [ent_eq t i k hlti hj] at hcell2
            go_wp2_with (at_builtin; refine wp_append_int _ _ rfl _ _ rfl wo.heap.size _ _ rfl hrowo rfl (by first | rfl | simp) (by rw [mapR_len]; omega) hszo ?_; intro v' w2 hown2 _ hB2 _)
            rw [← mapR_succ (fun i => ent t i k)] at hown2
            go_roundw
            case rel => exact ⟨i + 1, by omega, by go_num, hown2, hBo.trans hB2⟩
            case measure => simp [intOf]; omega
          · obtain rfl : i = t.length := by omega
            have hown := hown.below hBo
            obtain ⟨a6, c6, rfl, -, -⟩ := hrowo.ints.out
            go_wp2_with (at_builtin; refine wp_append_row _ _ rfl _ _ rfl w.heap.size _ _ _ rfl hown (colL t k) (hrowo.mono hsz) (fun g hg hf => by have a := OwnS.lt hrowo g hg; have b := hf.2; omega) rfl (by first | rfl | simp) (by rw [mapR_len]; omega) (by omega) ?_; intro v' w2 hown2 _ hB2 _)
            rw [← mapR_succ (colL t)] at hown2
            go_roundw
            case rel => exact ⟨k + 1, by omega, by go_num, hown2, (bstep hB hBo).trans hB2⟩
            case measure => simp [intOf]; omega
      · obtain rfl : k = wid t := by omega
        go_wp2
        go_ret2
        exact ⟨_, rfl, by rw [hF.out]; exact hown, hB⟩

end Go.Proofs.Ytpieaeokbblflaa
