/- The rank of a task: the reference's side; conditions: none. -/
import Derived.Test.YtdpfmhoachcnjaaMat
import Derived.BigRegion
import Derived.BigQuiet
namespace Go.Proofs.Ytdpfmhoachcnjaa
open Go.RowKit

theorem and_small {y : Int} (h : y = -1 ∨ y = 0 ∨ y = 1) : bits .and .i64 y 1 = y % 2 := by
  rcases h with rfl | rfl | rfl <;> decide
theorem small_step {x a y b : Int} (h1 : x = 0 ∨ x = 1) (h2 : a = 0 ∨ a = 1) (h3 : y = 0 ∨ y = 1) (h4 : b = 0 ∨ b = 1) : x * a - y * b = -1 ∨ x * a - y * b = 0 ∨ x * a - y * b = 1 := by
  rcases h1 with rfl | rfl <;> rcases h2 with rfl | rfl <;> rcases h3 with rfl | rfl <;> rcases h4 with rfl | rfl <;> decide
theorem cols01 {t : List (List Int)} (ht : taskB t = true) (n j i k : Nat) : (colsM (fun x => x % 2) n (ent t) j).1 i k = 0 ∨ (colsM (fun x => x % 2) n (ent t) j).1 i k = 1 := by
  rcases (cols_alike n (ent01M ht) j).1 i k with h | h | h
  · exact .inl h.1
  · exact .inr h.1
  · exact .inr h.1


set_option maxRecDepth 100000 in
set_option maxHeartbeats 8000000 in
theorem c_l8Rank0 (v : Value) (t : List (List Int)) (w : World) (h : Rows2 w v t) (ht : taskB t = true) :
    Calls Try.prog 79 #[v, .bool false] w fun e w' => e = .returned (.int .i64 (rankM (fun x => x) t.length (wid t) (ent t))) ∧ Below w.heap.size w w' := by
  obtain ⟨ad, cap, rfl, hl⟩ := h.out
  obtain ⟨hn, hm, hrow, h01⟩ := taskB_yes ht
  obtain ⟨bl0, off0, a0, c0, rfl, hb0, hcell0, hi0⟩ := h.at0 (by omega)
  have hin : InM (ent t) 1 := fun i k => by have := ent01M ht i k; omega
  replace hrow := Lib.hid hrow
  replace hin := Lib.hid hin
  replace ht := Lib.hid ht
  clear h01
  go_enter Try.func79, Try.ntmps79
  go_wp2_with fail
  go_loopw [5, 7] (fun v i wr => ∃ k : Nat, k ≤ t.length ∧ i = .int .i64 k ∧ OwnR wr w.heap.size (fun k => w.heap.size ≤ k ∧ k < wr.heap.size) v (t.take k) ∧ Below w.heap.size w wr) (fun _ i _ => t.length - (intOf i).toNat)
  case atStart => exact ⟨0, Nat.zero_le _, rfl, ownR_empty w w.heap.size (Nat.le_refl _), (Below.refl _ _).alloc (Nat.le_refl _) _⟩
  case round =>
    obtain ⟨k, hk, rfl, hown, hB⟩ := hrel
    have hsz := hB.size
    have hr := h.below hB
    by_cases hlt : k < t.length
    · have hd : decide ((k : Int) < (t.length : Int)) = true := by simp; omega
      obtain ⟨bl', off', a1, c1, e, hb1', hcell1, hi1⟩ := hr.at k hlt
      simp only [Option.some.injEq, Addr.mk.injEq, and_true] at e
      obtain ⟨rfl, rfl⟩ := e
      have hwk := hrow.out k hlt
      rw [hwk] at hcell1 hi1
      go_wp2_with fail
      refine (c_l1Own_any _ t[k] _ hi1 (by omega)).mono ?_
      rintro e w1 ⟨v1, rfl, hv1, hb1⟩
      have hown1 := hown.below hb1
      have hB1 := bstep hB hb1
      have hsz1 := hb1.size
      obtain ⟨a6, c6, e6, -, -⟩ := hv1.ints.out
      rw [hwk] at e6
      subst e6
      clear hcell1 hi1 hr
      go_wp2_with (at_builtin; refine wp_append_row _ _ rfl _ _ rfl w.heap.size _ _ _ rfl hown1 t[k] (hv1.mono hsz) (fun g hg hf => by have a := OwnS.lt hv1 g hg; have b := hf.2; omega) rfl (by first | rfl | simp) (by rw [List.length_take]; omega) (by omega) ?_; intro v' w2 hown2 _ hB2 _)
      rw [take_next t k hlt] at hown2
      have hB3 := hB1.trans hB2
      clear hB1 hB2 hb1 hB hown hown1
      go_wp2
      go_roundw
      case rel => exact ⟨k + 1, by omega, by go_num, hown2, hB3⟩
      case measure => simp [intOf]; omega
    · obtain rfl : k = t.length := by omega
      rw [List.take_length] at hown
      obtain ⟨g, p, q, capg, rfl, hM0⟩ := MatO.ofOwn hown (m := wid t) (by omega) (by omega) hrow.out
      clear hown hr
      have hgB : w.heap.size ≤ g := hM0.1.1
      go_wp2_with fail
      go_loopw [6, 8] (fun c j wr => ∃ (k : Nat) (p q : Nat → Nat), k ≤ wid t ∧ j = .int .i64 k ∧ c = .int .i64 (colsM (fun x => x) t.length (ent t) k).2 ∧ MatO wr w.heap.size g t.length (wid t) p q (colsM (fun x => x) t.length (ent t) k).1 ∧ Below w.heap.size w wr) (fun _ j _ => wid t - (intOf j).toNat)
      case atStart => exact ⟨0, p, q, by omega, rfl, rfl, hM0, hB⟩
      case round =>
        clear hM0 hB hsz p q
        obtain ⟨j, p, q, hj, rfl, rfl, hM, hB⟩ := hrel
        have hr1 := colsM_rank (fun x => x) t.length (ent t) j
        have hin1 := colsM_in shrinks_id hn.2 hin.out j
        skip
        obtain ⟨M, hMe⟩ : ∃ z, z = (colsM (fun x => x) t.length (ent t) j).1 := ⟨_, rfl⟩
        obtain ⟨r, hre⟩ : ∃ z, z = (colsM (fun x => x) t.length (ent t) j).2 := ⟨_, rfl⟩
        have hnext : colsM (fun x => x) t.length (ent t) (j + 1) = colM (fun x => x) t.length j (M, r) := by rw [hMe, hre]; rfl
        rw [← hMe] at hM hin1
        skip
        rw [← hre] at hr1 hin1 ⊢
        have hreH := Lib.hid hre
        clear hMe hre
        obtain ⟨F, hF⟩ : ∃ F, F = fnd (fun i => M i j == 0) t.length (t.length - r) r := ⟨_, rfl⟩
        have hno : Hid (F = t.length → colsM (fun x => x) t.length (ent t) (j + 1) = (M, r)) := Lib.hid (by
          intro e; rw [hnext]; unfold colM; simp only; rw [← hF, if_pos e])
        have hyes : Hid (F ≠ t.length → colsM (fun x => x) t.length (ent t) (j + 1) = (elimM (fun x => x) (swM M F r) r j t.length 0, r + 1)) := Lib.hid (by
          intro e; rw [hnext]; unfold colM; simp only; rw [← hF, if_neg e])
        clear hnext
        have hF0 : Hid (fnd (fun i => M i j == 0) t.length (t.length - r) r = F) := Lib.hid hF.symm
        clear hF
        have hsz := hB.size
        obtain ⟨bl', off', a1, c1, e, hb1', hcell1, hi1⟩ := (h.below hB).at0 (by omega)
        simp only [Option.some.injEq, Addr.mk.injEq, and_true] at e
        obtain ⟨rfl, rfl⟩ := e
        clear hi1
        by_cases hlj : j < wid t
        · have hdj : decide ((j : Int) < (wid t : Int)) = true := by simp; omega
          have hrn : r ≤ t.length := hr1.1
          go_wp2_with fail
          go_loop [9] (fun a => ∃ x : Nat, r ≤ x ∧ x ≤ t.length ∧ a = .int .i64 x ∧ Hid (fnd (fun i => M i j == 0) t.length (t.length - x) x = F)) (fun a => t.length - (intOf a).toNat)
          case atStart => exact ⟨r, Nat.le_refl _, hrn, rfl, hF0⟩
          case round =>
            obtain ⟨x, hx1, hx2, rfl, hF⟩ := hrel
            by_cases hlx : x < t.length
            · have hdx : decide ((x : Int) < (t.length : Int)) = true := by simp; omega
              obtain ⟨d1, f1⟩ := hM.2.1 x hlx
              obtain ⟨d2, -⟩ := hM.2.2.2.2 x j hlx hlj
              cases hz : ((M x j : Int) == 0)
              · have hFx : F = x := by rw [← hF.out]; exact fnd_stop hlx hz
                have hY : Hid (colsM (fun x => x) t.length (ent t) (j + 1) = (elimM (fun x => x) (swM M x r) r j t.length 0, r + 1)) := Lib.hid (by rw [← hFx]; exact hyes.out (by omega))
                clear hFx hF hF0 hno hyes
                have hrl : r < t.length := by omega
                have hne : ((x : Int) == (t.length : Int)) = false := by simp; omega
                obtain ⟨d3, f3⟩ := hM.2.1 r hrl
                have d4 : (wr.setCell ⟨g, x, none⟩ (.slice (some ⟨p r, 0, none⟩) (wid t) (q r))).cell? ⟨g, r, none⟩ = some (.slice (some ⟨p r, 0, none⟩) (wid t) (q r)) := by
                  by_cases e : x = r
                  · subst e; exact set_same d1
                  · rw [set_other (by intro e2; exact e (congrArg Addr.off e2))]; exact d3
                have hsw := MatO.swap hM hlx hrl
                go_wp2_with fail
                obtain ⟨ws, hws⟩ : ∃ z, z = (wr.setCell ⟨g, x, none⟩ (.slice (some ⟨p r, 0, none⟩) (wid t) (q r))).setCell ⟨g, r, none⟩ (.slice (some ⟨p x, 0, none⟩) (wid t) (q x)) := ⟨_, rfl⟩
                have hBs : Below w.heap.size w ws := by rw [hws]; exact (hB.setCell hgB _).setCell hgB _
                rw [← hws] at hsw ⊢
                clear hws d1 d2 d3 d4 f1 f3 hM hB hsz hcell1 hz hne
                obtain ⟨p2, hp2⟩ : ∃ z, z = fun i => p (swp x r i) := ⟨_, rfl⟩
                obtain ⟨q2, hq2⟩ : ∃ z, z = fun i => q (swp x r i) := ⟨_, rfl⟩
                rw [← hp2, ← hq2] at hsw
                obtain ⟨M1, hM1⟩ : ∃ z, z = swM M x r := ⟨_, rfl⟩
                have hin2 : InM M1 (big r) := by rw [hM1]; exact fun i k => hin1 _ k
                skip
                replace hsw : MatO ws w.heap.size g t.length (wid t) p2 q2 M1 := by rw [hM1]; exact hsw
                rw [← hM1] at hY
                have e1 : p x = p2 r := by rw [hp2]; simp only [swp_r]
                have e2 : q x = q2 r := by rw [hq2]; simp only [swp_r]
                rw [e1, e2]
                clear e1 e2 hp2 hq2 hM1 hin1
                have hr3 : r ≤ 3 := by omega
                have hbig := big_step hr3
                have hin3 : InM M1 128 := fun i k => by have := hin2 i k; omega
                replace hin2 := Lib.hid hin2
                replace hin3 := Lib.hid hin3
                clear hbig
                go_loopw [11] (fun i wr => ∃ I : Nat, r < I ∧ I ≤ t.length ∧ i = .int .i64 I ∧ MatO wr w.heap.size g t.length (wid t) p2 q2 (elimM (fun x => x) M1 r j I 0) ∧ Below w.heap.size w wr) (fun i _ => t.length - (intOf i).toNat)
                case atStart => exact ⟨r + 1, by omega, by omega, by go_num, by rw [elim_first]; exact hsw, hBs⟩
                case round =>
                  clear hsw hBs
                  obtain ⟨I, hI1, hI2, rfl, hM2, hB2⟩ := hrel
                  by_cases hlI : I < t.length
                  · have hdI : decide ((I : Int) < (t.length : Int)) = true := by simp; omega
                    obtain ⟨av, hav⟩ : ∃ z, z = M1 r j := ⟨_, rfl⟩
                    obtain ⟨bv, hbv⟩ : ∃ z, z = M1 I j := ⟨_, rfl⟩
                    have ca := (hM2.2.2.2.2 r j hrl hlj).1
                    rw [elim_row hI1, ← hav] at ca
                    have cb := (hM2.2.2.2.2 I j hlI hlj).1
                    rw [elim_at hI1 (by omega), ← hbv] at cb
                    have cI := (hM2.2.1 I hlI).1
                    have ba : -128 ≤ av ∧ av ≤ 128 := hav ▸ hin3.out r j
                    have bb : -128 ≤ bv ∧ bv ≤ 128 := hbv ▸ hin3.out I j
                    replace hav := Lib.hid hav
                    replace hbv := Lib.hid hbv
                    go_wp2_with fail
                    go_quiet (fail)
                    generalize hwd : World.drewN _ _ = wd
                    have hD := fun a => below_drewN (Below.refl wr.heap.size wr) a
                    replace hD : Below wr.heap.size wr wd := hwd ▸ hD _
                    clear hwd ca cb cI
                    have hM3 := hM2.below hD
                    have hB3 := bstep hB2 hD
                    clear hM2 hB2 hD
                    go_wp2_with fail
                    go_loopw [14] (fun i wr => ∃ K : Nat, K ≤ wid t ∧ i = .int .i64 K ∧ MatO wr w.heap.size g t.length (wid t) p2 q2 (elimM (fun x => x) M1 r j I K) ∧ Below w.heap.size w wr) (fun i _ => wid t - (intOf i).toNat)
                    case atStart => exact ⟨0, by omega, rfl, hM3, hB3⟩
                    case round =>
                      clear hM3 hB3
                      obtain ⟨K, hK, rfl, hM2, hB2⟩ := hrel
                      by_cases hlK : K < wid t
                      · have hdK : decide ((K : Int) < (wid t : Int)) = true := by simp; omega
                        obtain ⟨xv, hxv⟩ : ∃ z, z = M1 I K := ⟨_, rfl⟩
                        obtain ⟨yv, hyv⟩ : ∃ z, z = M1 r K := ⟨_, rfl⟩
                        have hput := fun y => MatO.put hM2 hlI hlK y
                        have hnx : putM (elimM (fun x => x) M1 r j I K) I K ((fun x => x) (xv * av - yv * bv)) = elimM (fun x => x) M1 r j I (K + 1) := by rw [hxv, hyv, hav.out, hbv.out]; exact elim_put hI1
                        obtain ⟨cx, fx⟩ := hM2.2.2.2.2 I K hlI hlK
                        rw [elim_at hI1 (by omega), ← hxv] at cx
                        have cy := (hM2.2.2.2.2 r K hrl hlK).1
                        rw [elim_row hI1, ← hyv] at cy
                        have cI := (hM2.2.1 I hlI).1
                        have bx : -128 ≤ xv ∧ xv ≤ 128 := hxv ▸ hin3.out I K
                        have by' : -128 ≤ yv ∧ yv ≤ 128 := hyv ▸ hin3.out r K
                        have bp := prod_bound bx ba
                        have bq := prod_bound by' bb
                        have hpb : w.heap.size ≤ p2 I := (hM2.2.2.1 I hlI).1
                        skip
                        replace hput := Lib.hid hput
                        replace hnx := Lib.hid hnx
                        clear hxv hyv hM2
                        go_wp2_with fail
                        go_region
                        obtain ⟨wn, hwn⟩ : ∃ z, z = (wr.setCell ⟨p2 I, K, none⟩ (.int .i64 (xv * av - yv * bv))).drew := ⟨_, rfl⟩
                        have hM4 : MatO wn w.heap.size g t.length (wid t) p2 q2 (putM (elimM (fun x => x) M1 r j I K) I K (xv * av - yv * bv)) := by rw [hwn]; exact (hput.out _).below (Below.refl _ _).drew
                        have hB4 : Below w.heap.size w wn := by rw [hwn]; exact (hB2.setCell hpb _).drew
                        rw [← hwn]
                        clear hwn cx fx cy cI hB2
                        have hM5 : MatO wn w.heap.size g t.length (wid t) p2 q2 (elimM (fun x => x) M1 r j I (K + 1)) := by rw [← hnx.out]; exact hM4
                        go_wp2
                        go_roundw
                        case rel => first | exact ⟨K + 1, by omega, by go_num, hM5, hB4⟩ | ((repeat apply Exists.intro); exact ⟨⟨K + 1, by omega, rfl, hM5, hB4⟩, rfl⟩)
                        case measure => simp [intOf]; omega
                      · obtain rfl : K = wid t := by omega
                        have hM3 := hM2.cong (elim_next (fun x => x) M1 (j := j) hI1)
                        clear hM2
                        go_wp2
                        go_roundw
                        case rel => first | exact ⟨I + 1, by omega, by omega, by go_num, hM3, hB2⟩ | ((repeat apply Exists.intro); exact ⟨⟨I + 1, by omega, by omega, rfl, hM3, hB2⟩, rfl⟩)
                        case measure => simp [intOf]; omega
                  · obtain rfl : I = t.length := by omega
                    go_wp2
                    go_roundw
                    case rel => first | exact ⟨j + 1, p2, q2, by omega, by go_num, by rw [hY.out]; go_num, by rw [hY.out]; exact hM2, hB2⟩ | ((repeat apply Exists.intro); exact ⟨⟨j + 1, p2, q2, by omega, rfl, by rw [hY.out]; rfl, by rw [hY.out]; exact hM2, hB2⟩, rfl⟩)
                    case measure => simp [intOf]; omega
              · have hF2 : Hid (fnd (fun i => M i j == 0) t.length (t.length - (x + 1)) (x + 1) = F) := Lib.hid (by rw [← hF.out]; exact fnd_go hlx hz)
                clear hF hF0
                go_wp2
                go_round
                case rel => exact ⟨x + 1, by omega, by omega, by go_num, hF2⟩
                case measure => simp [intOf]; omega
            · obtain rfl : x = t.length := by omega
              have hN : Hid (colsM (fun x => x) t.length (ent t) (j + 1) = (M, r)) := Lib.hid (hno.out (by rw [← hF.out]; exact fnd_end))
              clear hF hF0 hno hyes
              go_wp2
              go_roundw
              case rel => first | exact ⟨j + 1, p, q, by omega, by go_num, by rw [hN.out], by rw [hN.out]; exact hM, hB⟩ | ((repeat apply Exists.intro); exact ⟨⟨j + 1, p, q, by omega, rfl, by rw [hN.out], by rw [hN.out]; exact hM, hB⟩, rfl⟩)
              case measure => simp [intOf]; omega
        · obtain rfl : j = wid t := by omega
          go_wp2
          go_ret
          exact ⟨by rw [hreH.out]; rfl, hB⟩

set_option maxRecDepth 100000 in
set_option maxHeartbeats 8000000 in
theorem c_l8Rank2 (v : Value) (t : List (List Int)) (w : World) (h : Rows2 w v t) (ht : taskB t = true) :
    Calls Try.prog 79 #[v, .bool true] w fun e w' => e = .returned (.int .i64 (rankM (fun x => x % 2) t.length (wid t) (ent t))) ∧ Below w.heap.size w w' := by
  obtain ⟨ad, cap, rfl, hl⟩ := h.out
  obtain ⟨hn, hm, hrow, h01⟩ := taskB_yes ht
  obtain ⟨bl0, off0, a0, c0, rfl, hb0, hcell0, hi0⟩ := h.at0 (by omega)
  have hin : InM (ent t) 1 := fun i k => by have := ent01M ht i k; omega
  replace hrow := Lib.hid hrow
  replace hin := Lib.hid hin
  replace ht := Lib.hid ht
  clear h01
  go_enter Try.func79, Try.ntmps79
  go_wp2_with fail
  go_loopw [5, 7] (fun v i wr => ∃ k : Nat, k ≤ t.length ∧ i = .int .i64 k ∧ OwnR wr w.heap.size (fun k => w.heap.size ≤ k ∧ k < wr.heap.size) v (t.take k) ∧ Below w.heap.size w wr) (fun _ i _ => t.length - (intOf i).toNat)
  case atStart => exact ⟨0, Nat.zero_le _, rfl, ownR_empty w w.heap.size (Nat.le_refl _), (Below.refl _ _).alloc (Nat.le_refl _) _⟩
  case round =>
    obtain ⟨k, hk, rfl, hown, hB⟩ := hrel
    have hsz := hB.size
    have hr := h.below hB
    by_cases hlt : k < t.length
    · have hd : decide ((k : Int) < (t.length : Int)) = true := by simp; omega
      obtain ⟨bl', off', a1, c1, e, hb1', hcell1, hi1⟩ := hr.at k hlt
      simp only [Option.some.injEq, Addr.mk.injEq, and_true] at e
      obtain ⟨rfl, rfl⟩ := e
      have hwk := hrow.out k hlt
      rw [hwk] at hcell1 hi1
      go_wp2_with fail
      refine (c_l1Own_any _ t[k] _ hi1 (by omega)).mono ?_
      rintro e w1 ⟨v1, rfl, hv1, hb1⟩
      have hown1 := hown.below hb1
      have hB1 := bstep hB hb1
      have hsz1 := hb1.size
      obtain ⟨a6, c6, e6, -, -⟩ := hv1.ints.out
      rw [hwk] at e6
      subst e6
      clear hcell1 hi1 hr
      go_wp2_with (at_builtin; refine wp_append_row _ _ rfl _ _ rfl w.heap.size _ _ _ rfl hown1 t[k] (hv1.mono hsz) (fun g hg hf => by have a := OwnS.lt hv1 g hg; have b := hf.2; omega) rfl (by first | rfl | simp) (by rw [List.length_take]; omega) (by omega) ?_; intro v' w2 hown2 _ hB2 _)
      rw [take_next t k hlt] at hown2
      have hB3 := hB1.trans hB2
      clear hB1 hB2 hb1 hB hown hown1
      go_wp2
      go_roundw
      case rel => exact ⟨k + 1, by omega, by go_num, hown2, hB3⟩
      case measure => simp [intOf]; omega
    · obtain rfl : k = t.length := by omega
      rw [List.take_length] at hown
      obtain ⟨g, p, q, capg, rfl, hM0⟩ := MatO.ofOwn hown (m := wid t) (by omega) (by omega) hrow.out
      clear hown hr
      have hgB : w.heap.size ≤ g := hM0.1.1
      go_wp2_with fail
      go_loopw [6, 8] (fun c j wr => ∃ (k : Nat) (p q : Nat → Nat), k ≤ wid t ∧ j = .int .i64 k ∧ c = .int .i64 (colsM (fun x => x % 2) t.length (ent t) k).2 ∧ MatO wr w.heap.size g t.length (wid t) p q (colsM (fun x => x % 2) t.length (ent t) k).1 ∧ Below w.heap.size w wr) (fun _ j _ => wid t - (intOf j).toNat)
      case atStart => exact ⟨0, p, q, by omega, rfl, rfl, hM0, hB⟩
      case round =>
        clear hM0 hB hsz p q
        obtain ⟨j, p, q, hj, rfl, rfl, hM, hB⟩ := hrel
        have hr1 := colsM_rank (fun x => x % 2) t.length (ent t) j
        have hin1 := colsM_in shrinks_and hn.2 hin.out j
        have hz1 := cols01 ht.out t.length j
        obtain ⟨M, hMe⟩ : ∃ z, z = (colsM (fun x => x % 2) t.length (ent t) j).1 := ⟨_, rfl⟩
        obtain ⟨r, hre⟩ : ∃ z, z = (colsM (fun x => x % 2) t.length (ent t) j).2 := ⟨_, rfl⟩
        have hnext : colsM (fun x => x % 2) t.length (ent t) (j + 1) = colM (fun x => x % 2) t.length j (M, r) := by rw [hMe, hre]; rfl
        rw [← hMe] at hM hin1
        (rw [← hMe] at hz1; replace hz1 := Lib.hid hz1)
        rw [← hre] at hr1 hin1 ⊢
        have hreH := Lib.hid hre
        clear hMe hre
        obtain ⟨F, hF⟩ : ∃ F, F = fnd (fun i => M i j == 0) t.length (t.length - r) r := ⟨_, rfl⟩
        have hno : Hid (F = t.length → colsM (fun x => x % 2) t.length (ent t) (j + 1) = (M, r)) := Lib.hid (by
          intro e; rw [hnext]; unfold colM; simp only; rw [← hF, if_pos e])
        have hyes : Hid (F ≠ t.length → colsM (fun x => x % 2) t.length (ent t) (j + 1) = (elimM (fun x => x % 2) (swM M F r) r j t.length 0, r + 1)) := Lib.hid (by
          intro e; rw [hnext]; unfold colM; simp only; rw [← hF, if_neg e])
        clear hnext
        have hF0 : Hid (fnd (fun i => M i j == 0) t.length (t.length - r) r = F) := Lib.hid hF.symm
        clear hF
        have hsz := hB.size
        obtain ⟨bl', off', a1, c1, e, hb1', hcell1, hi1⟩ := (h.below hB).at0 (by omega)
        simp only [Option.some.injEq, Addr.mk.injEq, and_true] at e
        obtain ⟨rfl, rfl⟩ := e
        clear hi1
        by_cases hlj : j < wid t
        · have hdj : decide ((j : Int) < (wid t : Int)) = true := by simp; omega
          have hrn : r ≤ t.length := hr1.1
          go_wp2_with fail
          go_loop [9] (fun a => ∃ x : Nat, r ≤ x ∧ x ≤ t.length ∧ a = .int .i64 x ∧ Hid (fnd (fun i => M i j == 0) t.length (t.length - x) x = F)) (fun a => t.length - (intOf a).toNat)
          case atStart => exact ⟨r, Nat.le_refl _, hrn, rfl, hF0⟩
          case round =>
            obtain ⟨x, hx1, hx2, rfl, hF⟩ := hrel
            by_cases hlx : x < t.length
            · have hdx : decide ((x : Int) < (t.length : Int)) = true := by simp; omega
              obtain ⟨d1, f1⟩ := hM.2.1 x hlx
              obtain ⟨d2, -⟩ := hM.2.2.2.2 x j hlx hlj
              cases hz : ((M x j : Int) == 0)
              · have hFx : F = x := by rw [← hF.out]; exact fnd_stop hlx hz
                have hY : Hid (colsM (fun x => x % 2) t.length (ent t) (j + 1) = (elimM (fun x => x % 2) (swM M x r) r j t.length 0, r + 1)) := Lib.hid (by rw [← hFx]; exact hyes.out (by omega))
                clear hFx hF hF0 hno hyes
                have hrl : r < t.length := by omega
                have hne : ((x : Int) == (t.length : Int)) = false := by simp; omega
                obtain ⟨d3, f3⟩ := hM.2.1 r hrl
                have d4 : (wr.setCell ⟨g, x, none⟩ (.slice (some ⟨p r, 0, none⟩) (wid t) (q r))).cell? ⟨g, r, none⟩ = some (.slice (some ⟨p r, 0, none⟩) (wid t) (q r)) := by
                  by_cases e : x = r
                  · subst e; exact set_same d1
                  · rw [set_other (by intro e2; exact e (congrArg Addr.off e2))]; exact d3
                have hsw := MatO.swap hM hlx hrl
                go_wp2_with fail
                obtain ⟨ws, hws⟩ : ∃ z, z = (wr.setCell ⟨g, x, none⟩ (.slice (some ⟨p r, 0, none⟩) (wid t) (q r))).setCell ⟨g, r, none⟩ (.slice (some ⟨p x, 0, none⟩) (wid t) (q x)) := ⟨_, rfl⟩
                have hBs : Below w.heap.size w ws := by rw [hws]; exact (hB.setCell hgB _).setCell hgB _
                rw [← hws] at hsw ⊢
                clear hws d1 d2 d3 d4 f1 f3 hM hB hsz hcell1 hz hne
                obtain ⟨p2, hp2⟩ : ∃ z, z = fun i => p (swp x r i) := ⟨_, rfl⟩
                obtain ⟨q2, hq2⟩ : ∃ z, z = fun i => q (swp x r i) := ⟨_, rfl⟩
                rw [← hp2, ← hq2] at hsw
                obtain ⟨M1, hM1⟩ : ∃ z, z = swM M x r := ⟨_, rfl⟩
                have hin2 : InM M1 (big r) := by rw [hM1]; exact fun i k => hin1 _ k
                have hz2 : Hid (∀ i k, M1 i k = 0 ∨ M1 i k = 1) := Lib.hid (by rw [hM1]; exact fun i k => hz1.out _ k)
                replace hsw : MatO ws w.heap.size g t.length (wid t) p2 q2 M1 := by rw [hM1]; exact hsw
                rw [← hM1] at hY
                have e1 : p x = p2 r := by rw [hp2]; simp only [swp_r]
                have e2 : q x = q2 r := by rw [hq2]; simp only [swp_r]
                rw [e1, e2]
                clear e1 e2 hp2 hq2 hM1 hin1
                have hr3 : r ≤ 3 := by omega
                have hbig := big_step hr3
                have hin3 : InM M1 128 := fun i k => by have := hin2 i k; omega
                replace hin2 := Lib.hid hin2
                replace hin3 := Lib.hid hin3
                clear hbig
                go_loopw [11] (fun i wr => ∃ I : Nat, r < I ∧ I ≤ t.length ∧ i = .int .i64 I ∧ MatO wr w.heap.size g t.length (wid t) p2 q2 (elimM (fun x => x % 2) M1 r j I 0) ∧ Below w.heap.size w wr) (fun i _ => t.length - (intOf i).toNat)
                case atStart => exact ⟨r + 1, by omega, by omega, by go_num, by rw [elim_first]; exact hsw, hBs⟩
                case round =>
                  clear hsw hBs
                  obtain ⟨I, hI1, hI2, rfl, hM2, hB2⟩ := hrel
                  by_cases hlI : I < t.length
                  · have hdI : decide ((I : Int) < (t.length : Int)) = true := by simp; omega
                    obtain ⟨av, hav⟩ : ∃ z, z = M1 r j := ⟨_, rfl⟩
                    obtain ⟨bv, hbv⟩ : ∃ z, z = M1 I j := ⟨_, rfl⟩
                    have ca := (hM2.2.2.2.2 r j hrl hlj).1
                    rw [elim_row hI1, ← hav] at ca
                    have cb := (hM2.2.2.2.2 I j hlI hlj).1
                    rw [elim_at hI1 (by omega), ← hbv] at cb
                    have cI := (hM2.2.1 I hlI).1
                    have ba : -128 ≤ av ∧ av ≤ 128 := hav ▸ hin3.out r j
                    have bb : -128 ≤ bv ∧ bv ≤ 128 := hbv ▸ hin3.out I j
                    replace hav := Lib.hid hav
                    replace hbv := Lib.hid hbv
                    go_wp2_with fail
                    go_quiet (fail)
                    generalize hwd : World.drewN _ _ = wd
                    have hD := fun a => below_drewN (Below.refl wr.heap.size wr) a
                    replace hD : Below wr.heap.size wr wd := hwd ▸ hD _
                    clear hwd ca cb cI
                    have hM3 := hM2.below hD
                    have hB3 := bstep hB2 hD
                    clear hM2 hB2 hD
                    go_wp2_with fail
                    go_loopw [14] (fun i wr => ∃ K : Nat, K ≤ wid t ∧ i = .int .i64 K ∧ MatO wr w.heap.size g t.length (wid t) p2 q2 (elimM (fun x => x % 2) M1 r j I K) ∧ Below w.heap.size w wr) (fun i _ => wid t - (intOf i).toNat)
                    case atStart => exact ⟨0, by omega, rfl, hM3, hB3⟩
                    case round =>
                      clear hM3 hB3
                      obtain ⟨K, hK, rfl, hM2, hB2⟩ := hrel
                      by_cases hlK : K < wid t
                      · have hdK : decide ((K : Int) < (wid t : Int)) = true := by simp; omega
                        obtain ⟨xv, hxv⟩ : ∃ z, z = M1 I K := ⟨_, rfl⟩
                        obtain ⟨yv, hyv⟩ : ∃ z, z = M1 r K := ⟨_, rfl⟩
                        have hput := fun y => MatO.put hM2 hlI hlK y
                        have hnx : putM (elimM (fun x => x % 2) M1 r j I K) I K ((fun x => x % 2) (xv * av - yv * bv)) = elimM (fun x => x % 2) M1 r j I (K + 1) := by rw [hxv, hyv, hav.out, hbv.out]; exact elim_put hI1
                        obtain ⟨cx, fx⟩ := hM2.2.2.2.2 I K hlI hlK
                        rw [elim_at hI1 (by omega), ← hxv] at cx
                        have cy := (hM2.2.2.2.2 r K hrl hlK).1
                        rw [elim_row hI1, ← hyv] at cy
                        have cI := (hM2.2.1 I hlI).1
                        have bx : -128 ≤ xv ∧ xv ≤ 128 := hxv ▸ hin3.out I K
                        have by' : -128 ≤ yv ∧ yv ≤ 128 := hyv ▸ hin3.out r K
                        have bp := prod_bound bx ba
                        have bq := prod_bound by' bb
                        have hpb : w.heap.size ≤ p2 I := (hM2.2.2.1 I hlI).1
                        have hE := and_small (small_step (show xv = 0 ∨ xv = 1 by rw [hxv]; exact hz2.out I K) (show av = 0 ∨ av = 1 by rw [hav.out]; exact hz2.out r j) (show yv = 0 ∨ yv = 1 by rw [hyv]; exact hz2.out r K) (show bv = 0 ∨ bv = 1 by rw [hbv.out]; exact hz2.out I j))
                        replace hput := Lib.hid hput
                        replace hnx := Lib.hid hnx
                        clear hxv hyv hM2
                        go_wp2_with fail
                        go_region
                        obtain ⟨wn, hwn⟩ : ∃ z, z = (wr.setCell ⟨p2 I, K, none⟩ (.int .i64 (xv * av - yv * bv))).drew := ⟨_, rfl⟩
                        have hM4 : MatO wn w.heap.size g t.length (wid t) p2 q2 (putM (elimM (fun x => x % 2) M1 r j I K) I K (xv * av - yv * bv)) := by rw [hwn]; exact (hput.out _).below (Below.refl _ _).drew
                        have hB4 : Below w.heap.size w wn := by rw [hwn]; exact (hB2.setCell hpb _).drew
                        rw [← hwn]
                        clear hwn cx fx cy cI hB2
                        have hput2 := Lib.hid (fun y => MatO.put hM4 hlI hlK y)
                        have fx := (hM4.2.2.2.2 I K hlI hlK).2
                        have cx : wn.cell? ⟨p2 I, K, none⟩ = some (.int .i64 (xv * av - yv * bv)) := by have := (hM4.2.2.2.2 I K hlI hlK).1; simpa [putM] using this
                        have cI := (hM4.2.1 I hlI).1
                        clear hM4
                        go_wp2_with fail
                        go_region
                        obtain ⟨wm, hwm⟩ : ∃ z, z = (wn.setCell ⟨p2 I, K, none⟩ (.int .i64 ((xv * av - yv * bv) % 2))).drew := ⟨_, rfl⟩
                        have hM5 : MatO wm w.heap.size g t.length (wid t) p2 q2 (elimM (fun x => x % 2) M1 r j I (K + 1)) := by
                          rw [← hnx.out, hwm]
                          have := (hput2.out ((xv * av - yv * bv) % 2)).below (Below.refl _ _).drew
                          rw [put_put] at this
                          exact this
                        have hB5 : Below w.heap.size w wm := by rw [hwm]; exact (hB4.setCell hpb _).drew
                        rw [← hwm]
                        clear hwm cx fx cI hB4
                        go_wp2
                        go_roundw
                        case rel => first | exact ⟨K + 1, by omega, by go_num, hM5, hB5⟩ | ((repeat apply Exists.intro); exact ⟨⟨K + 1, by omega, rfl, hM5, hB5⟩, rfl⟩)
                        case measure => simp [intOf]; omega
                      · obtain rfl : K = wid t := by omega
                        have hM3 := hM2.cong (elim_next (fun x => x % 2) M1 (j := j) hI1)
                        clear hM2
                        go_wp2
                        go_roundw
                        case rel => first | exact ⟨I + 1, by omega, by omega, by go_num, hM3, hB2⟩ | ((repeat apply Exists.intro); exact ⟨⟨I + 1, by omega, by omega, rfl, hM3, hB2⟩, rfl⟩)
                        case measure => simp [intOf]; omega
                  · obtain rfl : I = t.length := by omega
                    go_wp2
                    go_roundw
                    case rel => first | exact ⟨j + 1, p2, q2, by omega, by go_num, by rw [hY.out]; go_num, by rw [hY.out]; exact hM2, hB2⟩ | ((repeat apply Exists.intro); exact ⟨⟨j + 1, p2, q2, by omega, rfl, by rw [hY.out]; rfl, by rw [hY.out]; exact hM2, hB2⟩, rfl⟩)
                    case measure => simp [intOf]; omega
              · have hF2 : Hid (fnd (fun i => M i j == 0) t.length (t.length - (x + 1)) (x + 1) = F) := Lib.hid (by rw [← hF.out]; exact fnd_go hlx hz)
                clear hF hF0
                go_wp2
                go_round
                case rel => exact ⟨x + 1, by omega, by omega, by go_num, hF2⟩
                case measure => simp [intOf]; omega
            · obtain rfl : x = t.length := by omega
              have hN : Hid (colsM (fun x => x % 2) t.length (ent t) (j + 1) = (M, r)) := Lib.hid (hno.out (by rw [← hF.out]; exact fnd_end))
              clear hF hF0 hno hyes
              go_wp2
              go_roundw
              case rel => first | exact ⟨j + 1, p, q, by omega, by go_num, by rw [hN.out], by rw [hN.out]; exact hM, hB⟩ | ((repeat apply Exists.intro); exact ⟨⟨j + 1, p, q, by omega, rfl, by rw [hN.out], by rw [hN.out]; exact hM, hB⟩, rfl⟩)
              case measure => simp [intOf]; omega
        · obtain rfl : j = wid t := by omega
          go_wp2
          go_ret
          exact ⟨by rw [hreH.out]; rfl, hB⟩
end Go.Proofs.Ytdpfmhoachcnjaa
