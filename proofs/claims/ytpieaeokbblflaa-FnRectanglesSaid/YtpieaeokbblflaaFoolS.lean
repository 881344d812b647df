/- Fooling lists on the reference's side; conditions: none. -/
import Derived.Test.YtpieaeokbblflaaFool
import Derived.BigRegion
import Derived.BigQuiet
namespace Go.Proofs.Ytpieaeokbblflaa
open Go.RowKit

theorem prL_len (m : Nat) (L : List Nat) : (prL m L).length = L.length := by simp [prL]
theorem prL_app (m : Nat) (L : List Nat) (a : Nat) : prL m L ++ [prC m a] = prL m (L ++ [a]) := by simp [prL]
theorem all_take_next (p : Nat → Bool) (L : List Nat) (k : Nat) (h : k < L.length) : (L.take (k + 1)).all p = ((L.take k).all p && p L[k]) := by
  rw [show L.take (k + 1) = L.take k ++ [L[k]] by simp, List.all_append]
  simp
theorem all_take_false (p : Nat → Bool) (L : List Nat) (k : Nat) (h : (L.take k).all p = false) : L.all p = false := by
  rw [List.all_eq_false] at h ⊢
  obtain ⟨x, hx, hp⟩ := h
  exact ⟨x, List.mem_of_mem_take hx, hp⟩
theorem loop_no {fit : List Nat → Nat → Bool} {a N : Nat} {L b R : List Nat} (ha : a < N) (h : loopF fit (rng a N) L b = R) (hf : fit L a = false) : loopF fit (rng (a + 1) N) L b = R := by
  rw [rng_next ha] at h
  unfold loopF at h
  rwa [if_neg (by simp [hf])] at h
theorem loop_yes {fit : List Nat → Nat → Bool} {a N : Nat} {L b R : List Nat} (ha : a < N) (h : loopF fit (rng a N) L b = R) (hf : fit L a = true) : loopF fit (rng (a + 1) N) L (longer b (loopF fit (rng (a + 1) N) (L ++ [a]) (L ++ [a]))) = R := by
  rw [rng_next ha] at h
  unfold loopF at h
  rwa [if_pos hf] at h


set_option maxRecDepth 100000 in
set_option maxHeartbeats 2000000 in
theorem c_l8Fool (t : List (List Int)) (bit : Int) (tv : Value) (ht : taskB t = true) : ∀ (d from' : Nat) (L : List Nat) (v : Value) (w : World) (B : Nat), t.length * wid t - from' = d → from' ≤ t.length * wid t → Rows2 w tv t → OwnPr w B v (prL (wid t) L) → L.length ≤ from' → (∀ x ∈ L, x < t.length * wid t) → B ≤ w.heap.size →
    Calls Try.prog 117 #[tv, .int .i64 bit, v, .int .i64 from'] w fun e w' => ∃ v', e = .returned v' ∧ OwnPr w' B v' (prL (wid t) (loopF (fits1 t bit (wid t)) (rng from' (t.length * wid t)) L L)) ∧ Below w.heap.size w w' := by
  intro d
  induction d using Nat.strongRecOn with
  | _ d ih =>
    intro from' L v w B hd hfr h hv0 hLl hLm hBw
    obtain ⟨ad, cap, rfl, hl⟩ := h.out
    obtain ⟨hn, hm, hrow, h01⟩ := taskB_yes ht
    obtain ⟨bl0, off0, a0, c0, rfl, hb0, hcell0, hi0⟩ := h.at0 (by omega)
    clear hcell0 hi0 h01
    obtain ⟨N, hN⟩ : ∃ z, z = t.length * wid t := ⟨_, rfl⟩
    rw [← hN] at hd hfr hLm ih ⊢
    have hNm : ((t.length : Int) * (wid t : Int)) = (N : Int) := by rw [hN]; simp
    have hN16 : N ≤ 16 := by rw [hN]; exact Nat.mul_le_mul hn.2 hm.2
    obtain ⟨R, hR⟩ : ∃ z, z = loopF (fits1 t bit (wid t)) (rng from' N) L L := ⟨_, rfl⟩
    rw [← hR]
    have hR0 : Hid (loopF (fits1 t bit (wid t)) (rng from' N) L L = R) := Lib.hid hR.symm
    have hLl16 : L.length ≤ 16 := by omega
    clear hR
    obtain ⟨aB, cB, rfl, -⟩ := hv0.pairs.out
    rw [prL_len] at hv0 ⊢
    replace hN := Lib.hid hN
    replace hrow := Lib.hid hrow
    replace ih := Lib.hid ih
    replace hLm := Lib.hid hLm
    replace ht := Lib.hid ht
    have hB0 := Below.refl w.heap.size w
    go_enter Try.func117, Try.ntmps117
    go_wp2_with fail
    go_loopw [9, 10] (fun v i wr => ∃ (a : Nat) (b : List Nat), from' ≤ a ∧ a ≤ N ∧ i = .int .i64 a ∧ OwnPr wr B v (prL (wid t) b) ∧ Hid (loopF (fits1 t bit (wid t)) (rng a N) L b = R) ∧ b.length ≤ 16 ∧ Below w.heap.size w wr) (fun _ i _ => N - (intOf i).toNat)
    case atStart => exact ⟨from', L, Nat.le_refl _, hfr, rfl, hv0, hR0, hLl16, hB0⟩
    case round =>
      clear hB0 hR0
      obtain ⟨a, b, ha1, ha2, rfl, hown, hRa, hbl, hB⟩ := hrel
      have hsz := hB.size
      have hr := h.below hB
      obtain ⟨aV, cV, rfl, -⟩ := hown.pairs.out
      rw [prL_len] at hown ⊢
      obtain ⟨bl', off', a1, c1, e, hb1', hcell1, hi1⟩ := hr.at0 (by omega)
      simp only [Option.some.injEq, Addr.mk.injEq, and_true] at e
      obtain ⟨rfl, rfl⟩ := e
      clear hi1
      by_cases hlt : a < N
      · have hda : decide ((a : Int) < (N : Int)) = true := by simp; omega
        obtain ⟨i, hi⟩ : ∃ z, z = a / wid t := ⟨_, rfl⟩
        obtain ⟨j, hj⟩ : ∃ z, z = a % wid t := ⟨_, rfl⟩
        have hiN : i < t.length := by rw [hi]; exact Nat.div_lt_of_lt_mul (by rw [Nat.mul_comm, ← hN.out]; exact hlt)
        have hjm : j < wid t := by rw [hj]; exact Nat.mod_lt _ (by omega)
        have q1 : (a : Int) / (wid t : Int) = (i : Int) := by rw [hi]; simp
        have q2 : (a : Int) % (wid t : Int) = (j : Int) := by rw [hj]; simp
        have q3 : (a : Int).tdiv (wid t : Int) = (i : Int) := by rw [hi]; rfl
        have q4 : (a : Int).tmod (wid t : Int) = (j : Int) := by rw [hj]; rfl
        have hm0 : ((wid t : Int) == 0) = false := by simp; omega
        have hm1 : (wid t : Int) ≠ 0 := by omega
        replace hi := Lib.hid hi
        replace hj := Lib.hid hj
        go_wp2_with fail
        go_quiet (fail)
        generalize hwd : World.drewN _ _ = wd
        have hD := fun q => below_drewN (Below.refl wr.heap.size wr) q
        replace hD : Below wr.heap.size wr wd := hwd ▸ hD _
        have hB2 := bstep hB hD
        have hown2 : OwnPr wd B (.slice aV b.length cV) (prL (wid t) b) := OwnD.below hown hD
        have hr2 := hr.below hD
        have hszd := hB2.size
        clear hwd hcell1 hr hown hB hD q1 q2 q3 q4 hm0 hm1
        obtain ⟨bl', off', a1, c1, e, hb1', hcell1, hi1⟩ := hr2.at i hiN
        simp only [Option.some.injEq, Addr.mk.injEq, and_true] at e
        obtain ⟨rfl, rfl⟩ := e
        rw [hrow.out i hiN] at hcell1 hi1
        have hjl : j < t[i].length := by rw [hrow.out i hiN]; exact hjm
        obtain ⟨b2, o2, rfl, hb2, hc2⟩ := hi1.at j hjl
        rw [ent_eq t i j hiN hjl] at hc2
        obtain ⟨x0, hx0⟩ : ∃ z, z = (ent t i j == bit) := ⟨_, rfl⟩
        have hisA : Hid (isAt t bit (wid t) a = x0) := Lib.hid (by unfold isAt; rw [← hi.out, ← hj.out, hx0])
        have hx0' : (ent t i j == bit) = x0 := hx0.symm
        clear hx0 hi1
        go_wp2_with fail
        clear hx0' hc2 hcell1
        go_loopw [13, 14] (fun f q wr => ∃ k : Nat, k ≤ L.length ∧ q = .int .i64 k ∧ f = .bool (x0 && (L.take k).all (ok2 t bit (wid t) a)) ∧ Below wd.heap.size wd wr) (fun _ q _ => L.length - (intOf q).toNat)
        case atStart => exact ⟨0, Nat.zero_le _, rfl, by simp, Below.refl _ _⟩
        case round =>
          obtain ⟨k, hk, rfl, rfl, hB⟩ := hrel
          cases hv : (x0 && (L.take k).all (ok2 t bit (wid t) a))
          · have hno : fits1 t bit (wid t) L a = false := by
              unfold fits1 fits2
              rw [hisA.out]
              cases x0
              · rfl
              · rw [Bool.true_and] at hv
                rw [all_take_false _ _ _ hv]
                rfl
            have hRn := Lib.hid (loop_no hlt hRa.out hno)
            replace hown := OwnD.below hown2 hB
            replace hB := bstep hB2 hB
            clear hv hno hown2 hB2 hr2
            by_cases hlk : k < L.length
            · have hdk : decide ((k : Int) < (L.length : Int)) = true := by simp; omega
              go_wp2
              go_roundw
              case rel => first | exact ⟨a + 1, b, by omega, by omega, by go_num, hown, hRn, hbl, hB⟩ | ((repeat apply Exists.intro); exact ⟨⟨a + 1, b, by omega, by omega, rfl, hown, hRn, hbl, hB⟩, rfl⟩)
              case measure => simp [intOf]; omega
            · obtain rfl : k = L.length := by omega
              go_wp2
              go_roundw
              case rel => first | exact ⟨a + 1, b, by omega, by omega, by go_num, hown, hRn, hbl, hB⟩ | ((repeat apply Exists.intro); exact ⟨⟨a + 1, b, by omega, by omega, rfl, hown, hRn, hbl, hB⟩, rfl⟩)
              case measure => simp [intOf]; omega
          · by_cases hlk : k < L.length
            · have hdk : decide ((k : Int) < (L.length : Int)) = true := by simp; omega
              replace hv := Lib.hid hv
              obtain ⟨q, hq⟩ : ∃ z, z = L[k] := ⟨_, rfl⟩
              have hqN : q < N := by rw [hq]; exact hLm.out _ (List.getElem_mem hlk)
              obtain ⟨bi, hbi⟩ : ∃ z, z = q / wid t := ⟨_, rfl⟩
              obtain ⟨bj, hbj⟩ : ∃ z, z = q % wid t := ⟨_, rfl⟩
              have hbin : bi < t.length := by rw [hbi]; exact Nat.div_lt_of_lt_mul (by rw [Nat.mul_comm, ← hN.out]; exact hqN)
              have hbjm : bj < wid t := by rw [hbj]; exact Nat.mod_lt _ (by omega)
              have hkp : k < (prL (wid t) L).length := by rw [prL_len]; exact hlk
              obtain ⟨gb, go, rfl, hgb, c1, c2⟩ := (hv0.pairs.below (bstep hB2 hB)).at k hkp
              have hpk : (prL (wid t) L)[k] = ((bi : Int), (bj : Int)) := by rw [hbi, hbj, hq]; simp [prL, prC]
              rw [hpk] at c1 c2
              have hr3 := hr2.below hB
              obtain ⟨bl', off', a1, c3, e, hb1', d1, hi1⟩ := hr3.at i hiN
              simp only [Option.some.injEq, Addr.mk.injEq, and_true] at e
              obtain ⟨rfl, rfl⟩ := e
              rw [hrow.out i hiN] at d1 hi1
              have hjl1 : bj < t[i].length := by rw [hrow.out i hiN]; exact hbjm
              obtain ⟨b2, o2, rfl, hb2, d2⟩ := hi1.at bj hjl1
              rw [ent_eq t i bj hiN hjl1] at d2
              obtain ⟨bl', off', a2, c4, e, hb1', d3, hi2⟩ := hr3.at bi hbin
              simp only [Option.some.injEq, Addr.mk.injEq, and_true] at e
              obtain ⟨rfl, rfl⟩ := e
              rw [hrow.out bi hbin] at d3 hi2
              have hjl2 : j < t[bi].length := by rw [hrow.out bi hbin]; exact hjm
              obtain ⟨b3, o3, rfl, hb3, d4⟩ := hi2.at j hjl2
              rw [ent_eq t bi j hbin hjl2] at d4
              have hok0 : ok2 t bit (wid t) a L[k] = ((ent t i bj != bit) || (ent t bi j != bit)) := by unfold ok2; rw [← hq, ← hi.out, ← hj.out, ← hbi, ← hbj]
              obtain ⟨x1, hx1⟩ : ∃ z, z = ent t i bj := ⟨_, rfl⟩
              obtain ⟨x2, hx2⟩ : ∃ z, z = ent t bi j := ⟨_, rfl⟩
              rw [← hx1, ← hx2] at hok0
              rw [← hx1] at d2
              rw [← hx2] at d4
              clear hx1 hx2 hpk hi1 hi2 hkp hq hbi hbj hr3
              cases hq1 : (x1 != bit)
              · cases hq2 : (x2 != bit)
                · have hok : ok2 t bit (wid t) a L[k] = false := by rw [hok0, hq1, hq2]; rfl
                  clear hok0
                  have hK : Hid ((x0 && (L.take (k + 1)).all (ok2 t bit (wid t) a)) = false) := Lib.hid (by rw [all_take_next _ _ _ hlk, ← Bool.and_assoc, hv.out, hok]; rfl)
                  clear hok
                  go_wp2_with fail
                  go_quiet (fail)
                  generalize hwd : World.drewN _ _ = wd2
                  have hD2 := fun q => below_drewN (Below.refl wr.heap.size wr) q
                  replace hD2 : Below wr.heap.size wr wd2 := hwd ▸ hD2 _
                  have hB3 := bstep hB hD2
                  clear hwd c1 c2 d1 d2 d3 d4 hD2 hB
                  go_wp2
                  go_roundw
                  case rel => first | exact ⟨k + 1, by omega, by go_num, by rw [hK.out], hB3⟩ | ((repeat apply Exists.intro); exact ⟨⟨k + 1, by omega, rfl, by rw [hK.out], hB3⟩, rfl⟩)
                  case measure => simp [intOf]; omega
                · have hok : ok2 t bit (wid t) a L[k] = true := by rw [hok0, hq1, hq2]; rfl
                  clear hok0
                  have hK : Hid ((x0 && (L.take (k + 1)).all (ok2 t bit (wid t) a)) = true) := Lib.hid (by rw [all_take_next _ _ _ hlk, ← Bool.and_assoc, hv.out, hok]; rfl)
                  clear hok
                  go_wp2_with fail
                  go_quiet (fail)
                  generalize hwd : World.drewN _ _ = wd2
                  have hD2 := fun q => below_drewN (Below.refl wr.heap.size wr) q
                  replace hD2 : Below wr.heap.size wr wd2 := hwd ▸ hD2 _
                  have hB3 := bstep hB hD2
                  clear hwd c1 c2 d1 d2 d3 d4 hD2 hB
                  go_wp2
                  go_roundw
                  case rel => first | exact ⟨k + 1, by omega, by go_num, by rw [hK.out], hB3⟩ | ((repeat apply Exists.intro); exact ⟨⟨k + 1, by omega, rfl, by rw [hK.out], hB3⟩, rfl⟩)
                  case measure => simp [intOf]; omega
              · have hok : ok2 t bit (wid t) a L[k] = true := by rw [hok0, hq1]; rfl
                clear hok0
                have hK : Hid ((x0 && (L.take (k + 1)).all (ok2 t bit (wid t) a)) = true) := Lib.hid (by rw [all_take_next _ _ _ hlk, ← Bool.and_assoc, hv.out, hok]; rfl)
                clear hok
                go_wp2_with fail
                go_quiet (fail)
                generalize hwd : World.drewN _ _ = wd2
                have hD2 := fun q => below_drewN (Below.refl wr.heap.size wr) q
                replace hD2 : Below wr.heap.size wr wd2 := hwd ▸ hD2 _
                have hB3 := bstep hB hD2
                clear hwd c1 c2 d1 d2 d3 d4 hD2 hB
                go_wp2
                go_roundw
                case rel => first | exact ⟨k + 1, by omega, by go_num, by rw [hK.out], hB3⟩ | ((repeat apply Exists.intro); exact ⟨⟨k + 1, by omega, rfl, by rw [hK.out], hB3⟩, rfl⟩)
                case measure => simp [intOf]; omega
            · obtain rfl : k = L.length := by omega
              rw [List.take_length] at hv
              have hyes : fits1 t bit (wid t) L a = true := by
                unfold fits1 fits2
                rw [hisA.out]
                exact hv
              have hRy := Lib.hid (loop_yes hlt hRa.out hyes)
              replace hown := OwnD.below hown2 hB
              have hr := hr2.below hB
              replace hB := bstep hB2 hB
              clear hv hyes hown2 hB2 hr2
              have hpr : (prC (wid t) a) = ((i : Int), (j : Int)) := by unfold prC; rw [hi.out, hj.out]
              have hL1 : (L ++ [a]).length ≤ a + 1 := by simp; omega
              have hLm1 : ∀ x ∈ L ++ [a], x < N := by
                intro x hx
                rcases List.mem_append.1 hx with h1 | h1
                · exact hLm.out x h1
                · simp at h1; omega
              have hX16 : (loopF (fits1 t bit (wid t)) (rng (a + 1) N) (L ++ [a]) (L ++ [a])).length ≤ 16 := loop_len _ _ _ _ 16 (by simp; omega) (by simp [rng]; omega)
              obtain ⟨X, hX⟩ : ∃ z, z = loopF (fits1 t bit (wid t)) (rng (a + 1) N) (L ++ [a]) (L ++ [a]) := ⟨_, rfl⟩
              rw [← hX] at hRy hX16
              have hrec := ih.out (N - (a + 1)) (by omega) (a + 1) (L ++ [a])
              rw [← hX] at hrec
              have hpv := hv0.pairs.below hB
              replace hX := Lib.hid hX
              replace hrec := Lib.hid hrec
              replace hLm1 := Lib.hid hLm1
              replace hpr := Lib.hid hpr
              have hszr := hB.size
              go_wp2_with (at_builtin; first | (refine wp_append_pairs _ rfl _ _ rfl wr.heap.size _ [] rfl (ownPr_empty wr _ (Nat.le_refl _)) _ (prL (wid t) L) rfl (hpv.below ((Below.refl _ _).alloc (Nat.le_refl _) _)) (by rw [prL_len]; simp; omega) (by simp) ?_; intro v1 w1 hn1 hg1 hb1; rw [List.nil_append] at hn1; have hb1' := ((Below.refl wr.heap.size wr).alloc (Nat.le_refl _) (.cells #[] 76)).trans hb1; clear hb1 hg1; have hs1 := hb1'.size) | (refine wp_append_pair _ (i : Int) (j : Int) rfl _ _ rfl wr.heap.size _ (prL (wid t) L) rfl hn1 rfl (by first | rfl | simp) (by rw [prL_len]; omega) (by omega) ?_; intro v2 w2 hn2 hg2 hb2))
              rw [← hpr.out, prL_app] at hn2
              have hb2' := hb1'.trans hb2
              clear hb2 hg2 hb1' hn1 hs1
              have hs2 := hb2'.size
              have hcall := hrec.out v2 w2 wr.heap.size (by trivial) (by omega) (hr.below hb2') hn2 hL1 hLm1.out (by omega)
              rw [show (((a + 1 : Nat)) : Int) = (a : Int) + 1 from rfl] at hcall
              refine hcall.mono ?_
              rintro e w3 ⟨v3, rfl, hn3, hb3⟩
              have hb3' := bstep hb2' hb3
              have hown3 := OwnD.below hown hb3'
              have hB4 := bstep hB hb3'
              have hn4 : OwnPr w3 B v3 (prL (wid t) X) := OwnD.mono hn3 (by omega)
              clear hn3 hb3 hb2' hb3' hown hB hr hpv hn2 hcall
              obtain ⟨aX, cX, rfl, -⟩ := hn4.pairs.out
              rw [prL_len] at hn4 ⊢
              by_cases hc : b.length < X.length
              · have hdc : decide ((b.length : Int) < (X.length : Int)) = true := by simp; omega
                have hRn : Hid (loopF (fits1 t bit (wid t)) (rng (a + 1) N) L X = R) := Lib.hid (by have := hRy.out; rw [show longer b X = X from if_pos hc] at this; exact this)
                go_wp2
                go_roundw
                case rel => first | exact ⟨a + 1, X, by omega, by omega, by go_num, hn4, hRn, hX16, hB4⟩ | ((repeat apply Exists.intro); exact ⟨⟨a + 1, X, by omega, by omega, rfl, hn4, hRn, hX16, hB4⟩, rfl⟩)
                case measure => simp [intOf]; omega
              · have hdc : decide ((b.length : Int) < (X.length : Int)) = false := by simp; omega
                have hRn : Hid (loopF (fits1 t bit (wid t)) (rng (a + 1) N) L b = R) := Lib.hid (by have := hRy.out; rw [show longer b X = b from if_neg hc] at this; exact this)
                go_wp2
                go_roundw
                case rel => first | exact ⟨a + 1, b, by omega, by omega, by go_num, hown3, hRn, hbl, hB4⟩ | ((repeat apply Exists.intro); exact ⟨⟨a + 1, b, by omega, by omega, rfl, hown3, hRn, hbl, hB4⟩, rfl⟩)
                case measure => simp [intOf]; omega
      · obtain rfl : a = N := by omega
        have hbR : b = R := by have := hRa.out; rw [rng_end] at this; exact this
        subst hbR
        go_wp2
        go_ret
        exact ⟨_, rfl, hown, hB⟩

set_option maxHeartbeats 2000000 in
theorem c_spec_FoolingSet (v : Value) (t : List (List Int)) (bit : Int) (w : World) (h : Rows2 w v t) :
    Calls Try.prog 52 #[v, .int .i64 bit] w fun e w' => ∃ v', e = .returned (.tuple #[v', .bool (foolB t bit)]) ∧ OwnP w' w.heap.size (fun k => w.heap.size ≤ k ∧ k < w'.heap.size) v' (foolL t bit) ∧ Below w.heap.size w w' := by
  obtain ⟨ad, cap, rfl, hl⟩ := h.out
  cases ht : taskB t
  · have hF : Hid (foolL t bit = [] ∧ foolB t bit = false) := Lib.hid (by simp [foolL, foolB, ht])
    replace ht := Lib.hid ht
    go_enter Try.func52, Try.ntmps52
    go_wp2_with fail
    refine (c_l8Task_no _ t _ h).mono ?_
    rintro e w1 ⟨rfl, hb1⟩
    rw [ht.out]
    have hz := hb1.size
    have ho := (ownPr_empty w1 w.heap.size hz).toP
    have hB2 := hb1.alloc hz (.cells #[] 76)
    go_wp2
    go_ret2
    exact ⟨_, by rw [hF.out.2]; rfl, by rw [hF.out.1]; exact ho, hB2⟩
  cases hb : inB 0 1 bit
  · have hF : Hid (foolL t bit = [] ∧ foolB t bit = false) := Lib.hid (by simp [foolL, foolB, hb])
    replace ht := Lib.hid ht
    replace hb := Lib.hid hb
    go_enter Try.func52, Try.ntmps52
    go_wp2_with fail
    refine (c_l8Task_no _ t _ h).mono ?_
    rintro e w1 ⟨rfl, hb1⟩
    rw [ht.out]
    have hz := hb1.size
    have ho := (ownPr_empty w1 w.heap.size hz).toP
    have hB2 := hb1.alloc hz (.cells #[] 76)
    go_wp2_with fail
    refine (c_l1In _ _ _ _).mono ?_
    rintro e _ ⟨rfl, rfl⟩
    rw [hb.out]
    go_wp2
    go_ret2
    exact ⟨_, by rw [hF.out.2]; rfl, by rw [hF.out.1]; exact ho, hB2⟩
  have hF : Hid (foolL t bit = prL (wid t) (loopF (fits1 t bit (wid t)) (rng 0 (t.length * wid t)) [] []) ∧ foolB t bit = true) := Lib.hid (by simp [foolL, foolB, hb, ht])
  have hc := Lib.hid ht
  replace ht := Lib.hid ht
  replace hb := Lib.hid hb
  go_enter Try.func52, Try.ntmps52
  go_wp2_with fail
  refine (c_l8Task_no _ t _ h).mono ?_
  rintro e w1 ⟨rfl, hb1⟩
  rw [ht.out]
  have hz := hb1.size
  have ho := ownPr_empty w1 w.heap.size hz
  have hB2 := hb1.alloc hz (.cells #[] 76)
  have hr2 := h.below hB2
  go_wp2_with fail
  refine (c_l1In _ _ _ _).mono ?_
  rintro e _ ⟨rfl, rfl⟩
  rw [hb.out]
  go_wp2_with fail
  refine (c_l8Fool t bit _ hc.out _ 0 [] _ _ w.heap.size rfl (Nat.zero_le _) hr2 ho (Nat.le_refl _) (by simp) (by simp; omega)).mono ?_
  rintro e w3 ⟨v3, rfl, hn3, hb3⟩
  have hB4 := bstep hB2 hb3
  go_wp2
  go_ret2
  exact ⟨_, by rw [hF.out.2]; rfl, by rw [hF.out.1]; exact OwnPr.toP hn3, hB4⟩
end Go.Proofs.Ytpieaeokbblflaa
