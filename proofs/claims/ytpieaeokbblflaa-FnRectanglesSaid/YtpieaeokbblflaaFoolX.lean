/- The closure of FoolingSet of the program; conditions: none. -/
import Derived.Test.YtpieaeokbblflaaFoolC
import Derived.BigRegion
import Derived.BigQuiet
import Derived.Laws.EntriesVeiled
namespace Go.Proofs.Ytpieaeokbblflaa
open Go.RowKit

theorem loop_drop_no {fit : List Nat → Nat → Bool} {A L b R : List Nat} {k : Nat} (hk : k < A.length) (h : loopF fit (A.drop k) L b = R) (hf : fit L A[k] = false) : loopF fit (A.drop (k + 1)) L b = R := by
  rw [List.drop_eq_getElem_cons hk] at h
  unfold loopF at h
  rwa [if_neg (by simp [hf])] at h
theorem loop_drop_yes {fit : List Nat → Nat → Bool} {A L b R : List Nat} {k : Nat} (hk : k < A.length) (h : loopF fit (A.drop k) L b = R) (hf : fit L A[k] = true) : loopF fit (A.drop (k + 1)) L (loopF fit (A.drop (k + 1)) (L ++ [A[k]]) (longer b (L ++ [A[k]]))) = R := by
  rw [loop_longer]
  rw [List.drop_eq_getElem_cons hk] at h
  unfold loopF at h
  rwa [if_pos hf] at h



set_option maxRecDepth 100000 in
set_option maxHeartbeats 2000000 in
theorem c_extend (t : List (List Int)) (bit : Int) (ht : taskB t = true) (tv av fn : Value) (W0 : World) (bT bI bA bB Bb : Nat) (A : List Nat) (hbB : bB = W0.heap.size) (hlt : bT < bB ∧ bI < bB ∧ bA < bB)
    (hfn : fn = .func (.func 115) #[] #[.pointer (some ⟨bB, 0, none⟩), .pointer (some ⟨bA, 0, none⟩), .pointer (some ⟨bT, 0, none⟩), .pointer (some ⟨bI, 0, none⟩), .pointer (some ⟨bB + 1, 0, none⟩)])
    (hT : W0.heap[bT]? = some (.cells #[tv] 22 (0, 0))) (hI : W0.heap[bI]? = some (.cells #[.int .i64 bit] 3 (0, 0))) (hA : W0.heap[bA]? = some (.cells #[av] 36 (0, 0)))
    (hr0 : Rows2 W0 tv t) (ha0 : Pairs W0 av (prL (wid t) A)) (hAN : ∀ x ∈ A, x < t.length * wid t) (hA16 : A.length ≤ 16) (hBb : Bb ≤ bB) :
    ∀ (d from' : Nat) (L best : List Nat) (v bv : Value) (w : World), A.length - from' = d → from' ≤ A.length → Below bB W0 w → w.heap[bB]? = some (.cells #[bv] 36 (0, 0)) → w.heap[bB + 1]? = some (.cells #[fn] 116 (0, 0)) →
      OwnPr w Bb bv (prL (wid t) best) → best.length ≤ 16 → L.length ≤ from' → Pairs w v (prL (wid t) L) → (∀ x ∈ L, x < t.length * wid t) →
    Calls Try.prog 115 #[v, .int .i64 from', .pointer (some ⟨bB, 0, none⟩), .pointer (some ⟨bA, 0, none⟩), .pointer (some ⟨bT, 0, none⟩), .pointer (some ⟨bI, 0, none⟩), .pointer (some ⟨bB + 1, 0, none⟩)] w fun e w' =>
      (∃ x, e = .returned x) ∧ KeptOff (fun q => q = bB) w w' ∧ ∃ bv', w'.heap[bB]? = some (.cells #[bv'] 36 (0, 0)) ∧ OwnPr w' Bb bv' (prL (wid t) (loopF (fits2 t bit (wid t)) (A.drop from') L (longer best L))) := by
  obtain ⟨aA, cA, rfl, -⟩ := ha0.out
  obtain ⟨adT, cT, rfl, hlT⟩ := hr0.out
  rw [prL_len] at ha0 hA
  intro d
  induction d using Nat.strongRecOn with
  | _ d ih =>
    intro from' L best v bv w hd hfr hW hbBw hbE hown hbl0 hLl hv hLm
    obtain ⟨hn, hm, hrow, h01⟩ := taskB_yes ht
    obtain ⟨aL, cL, rfl, -⟩ := hv.out
    obtain ⟨aV, cV, rfl, -⟩ := hown.pairs.out
    rw [prL_len] at hv hown hbBw ⊢
    obtain ⟨R, hR⟩ : ∃ z, z = loopF (fits2 t bit (wid t)) (A.drop from') L (longer best L) := ⟨_, rfl⟩
    rw [← hR]
    have hWs := hW.size
    have hE1 := (Array.getElem?_eq_some_iff.1 hbE).1
    obtain ⟨y1, y2⟩ := blk1 hbBw
    have y3 := (blk1 ((hW.block _ hlt.2.2).trans hA)).1
    have hLl16 : L.length ≤ 16 := by omega
    clear h01
    obtain ⟨tb, to, a0, c0, rfl, htb, -, -⟩ := hr0.at0 (by omega)
    replace hrow := Lib.hid hrow
    replace ih := Lib.hid ih
    replace hLm := Lib.hid hLm
    replace hAN := Lib.hid hAN
    replace hfn := Lib.hid hfn
    replace hbB := Lib.hid hbB
    by_cases hc : best.length < L.length
    · have hdc : decide ((best.length : Int) < (L.length : Int)) = true := by simp; omega
      have hRX : Hid (loopF (fits2 t bit (wid t)) (A.drop from') L L = R) := Lib.hid (by rw [hR, show longer best L = L from if_pos hc])
      clear hR
      go_enter Try.func115, Try.ntmps115
      go_wp2_with fail
      refine (c_clone _ (prL (wid t) L) _ hv (by rw [prL_len]; omega) (by rw [prL_len]; omega)).mono ?_
      rintro e w2 ⟨bvX, rfl, hvX, hb2⟩
      obtain ⟨aX, cX, rfl, -⟩ := hvX.pairs.out
      rw [prL_len] at hvX ⊢
      have hbBX2 := blk_later hb2 hbBw
      obtain ⟨y4, y5⟩ := blk1 hbBX2
      have hbBX := blk_set (j := 0) (v := .slice aX L.length cX) hbBX2
      have hKX : KeptOff (fun q => q = bB) w (w2.setCell ⟨bB, 0, none⟩ (.slice aX L.length cX)) := (keptB hb2).trans (keptOff_set w2 bB 0 _)
      have hownX : OwnPr (w2.setCell ⟨bB, 0, none⟩ (.slice aX L.length cX)) Bb (.slice aX L.length cX) (prL (wid t) L) := OwnD.mono (OwnD.off hvX (keptOff_set w2 bB 0 _) (fun g hg hgb => by have := OwnD.lt hvX g hg; omega)) (by omega)
      have hblX := hLl16
      clear hvX hb2 hbBX2
      go_wp2_with fail
      go_loopw [9] (fun i wr => ∃ (k : Nat) (b : List Nat) (bv' : Value), from' ≤ k ∧ k ≤ A.length ∧ i = .int .i64 k ∧ KeptOff (fun q => q = bB) w wr ∧ wr.heap[bB]? = some (.cells #[bv'] 36 (0, 0)) ∧ OwnPr wr Bb bv' (prL (wid t) b) ∧ Hid (loopF (fits2 t bit (wid t)) (A.drop k) L b = R) ∧ b.length ≤ 16) (fun i _ => A.length - (intOf i).toNat)
      case atStart => exact ⟨from', L, .slice aX L.length cX, Nat.le_refl _, hfr, rfl, hKX, hbBX, hownX, hRX, hblX⟩
      case round =>
        clear hKX hbBX hownX hRX hblX
        obtain ⟨k, b, bv2, hk1, hk2, rfl, hK2, hbB2, hown2, hRa, hbl⟩ := hrel
        obtain ⟨wo, rfl⟩ : ∃ wo : World, wo = wr := ⟨_, rfl⟩
        have hszk := hK2.size
        have hW2 : Below bB W0 wo := hW.trans (hK2.below (fun q hq => by omega) (by omega))
        have hbE2 : wo.heap[bB + 1]? = some (.cells #[fn] 116 (0, 0)) := (hK2.block (bB + 1) (by omega) (by omega)).trans hbE
        have hW3 : Below W0.heap.size W0 wo := hbB.out ▸ hW2
        have hsW := hW3.size
        have hbq := hbB.out
        have z3 := (blk1 ((hW2.block _ hlt.2.2).trans hA)).1
        by_cases hlk : k < A.length
        · have hdk : decide ((k : Int) < (A.length : Int)) = true := by simp; omega
          obtain ⟨q0, hq0⟩ : ∃ z, z = A[k] := ⟨_, rfl⟩
          have hq0N : q0 < t.length * wid t := by rw [hq0]; exact hAN.out _ (List.getElem_mem hlk)
          obtain ⟨pi, hpi⟩ : ∃ z, z = q0 / wid t := ⟨_, rfl⟩
          obtain ⟨pj, hpj⟩ : ∃ z, z = q0 % wid t := ⟨_, rfl⟩
          have hpin : pi < t.length := by rw [hpi]; exact Nat.div_lt_of_lt_mul (by rw [Nat.mul_comm]; exact hq0N)
          have hpjm : pj < wid t := by rw [hpj]; exact Nat.mod_lt _ (by omega)
          obtain ⟨ab, ao, rfl, hab, c1, c2⟩ := (ha0.below hW3).at k (by rw [prL_len]; exact hlk)
          have hpk : (prL (wid t) A)[k]'(by rw [prL_len]; exact hlk) = ((pi : Int), (pj : Int)) := by rw [hpi, hpj, hq0]; simp [prL, prC]
          rw [hpk] at c1 c2
          have hpc : prC (wid t) q0 = ((pi : Int), (pj : Int)) := by unfold prC; rw [hpi, hpj]
          replace hq0 := Lib.hid hq0
          replace hpi := Lib.hid hpi
          replace hpj := Lib.hid hpj
          replace hpc := Lib.hid hpc
          replace hbq := Lib.hid hbq
          clear hpk
          go_wp2_with fail
          obtain ⟨wp, hwp⟩ : ∃ z, z = wo.alloc (.cells #[.int .i64 pi, .int .i64 pj] 76) := ⟨_, rfl⟩
          have hpb : wp.heap[wo.heap.size]? = some (.cells #[.int .i64 pi, .int .i64 pj] 76 (0, 0)) := by rw [hwp]; exact heap_alloc_at rfl
          have hBp : Below wo.heap.size wo wp := by rw [hwp]; exact (Below.refl _ _).alloc (Nat.le_refl _) _
          have hsp : wp.heap.size = wo.heap.size + 1 := by rw [hwp]; simp
          rw [← hwp]
          clear hwp c1 c2 z3
          go_loopw [11, 34] (fun f i wr => ∃ l : Nat, l ≤ L.length ∧ i = .int .i64 l ∧ f = .bool ((L.take l).all (ok2 t bit (wid t) q0)) ∧ Below wp.heap.size wp wr) (fun _ i _ => L.length - (intOf i).toNat)
          case atStart => exact ⟨0, Nat.zero_le _, rfl, by simp, Below.refl _ _⟩
          case round =>
            obtain ⟨l, hl1, rfl, rfl, hBs⟩ := hrel
            have hBrs := bstep hBp hBs
            have hsws := hBs.size
            have hvs := (pairs_kept hv hK2 hbBw (by intro x e; cases e)).below hBrs
            by_cases hll : l < L.length
            · have hdl : decide ((l : Int) < (L.length : Int)) = true := by simp; omega
              obtain ⟨q1, hq1⟩ : ∃ z, z = L[l] := ⟨_, rfl⟩
              have hq1N : q1 < t.length * wid t := by rw [hq1]; exact hLm.out _ (List.getElem_mem hll)
              obtain ⟨qi, hqi⟩ : ∃ z, z = q1 / wid t := ⟨_, rfl⟩
              obtain ⟨qj, hqj⟩ : ∃ z, z = q1 % wid t := ⟨_, rfl⟩
              have hqin : qi < t.length := by rw [hqi]; exact Nat.div_lt_of_lt_mul (by rw [Nat.mul_comm]; exact hq1N)
              have hqjm : qj < wid t := by rw [hqj]; exact Nat.mod_lt _ (by omega)
              obtain ⟨lb, lo, rfl, hlb, c1, c2⟩ := hvs.at l (by rw [prL_len]; exact hll)
              have hpk : (prL (wid t) L)[l]'(by rw [prL_len]; exact hll) = ((qi : Int), (qj : Int)) := by rw [hqi, hqj, hq1]; simp [prL, prC]
              rw [hpk] at c1 c2
              have hok0 : ok2 t bit (wid t) q0 L[l] = ((ent t pi qj != bit) || (ent t qi pj != bit)) := by unfold ok2; rw [← hq1, ← hpi.out, ← hpj.out, ← hqi, ← hqj]
              have hnx := all_take_next (ok2 t bit (wid t) q0) L l hll
              rw [hok0] at hnx
              replace hnx := Lib.hid hnx
              clear hpk hq1 hqi hqj hok0
              go_wp2_with fail
              obtain ⟨wq, hwq⟩ : ∃ z, z = wr.alloc (.cells #[.int .i64 qi, .int .i64 qj] 76) := ⟨_, rfl⟩
              have hqb : wq.heap[wr.heap.size]? = some (.cells #[.int .i64 qi, .int .i64 qj] 76 (0, 0)) := by rw [hwq]; exact heap_alloc_at rfl
              have hBq : Below wr.heap.size wr wq := by rw [hwq]; exact (Below.refl _ _).alloc (Nat.le_refl _) _
              rw [← hwq]
              clear hwq c1 c2
              have hBrq := bstep hBrs hBq
              have hWq : Below W0.heap.size W0 wq := hW3.trans (hBrq.mono (by omega))
              obtain ⟨s0, s1, -, -⟩ := blk2P hqb
              obtain ⟨p0, p1, -, -⟩ := blk2P (blk_later (bstep hBs hBq) hpb)
              have sT := (blk1 ((hWq.block _ (by have := hbq.out; omega)).trans hT)).1
              have sI := (blk1 ((hWq.block _ (by have := hbq.out; omega)).trans hI)).1
              have hrq := hr0.below hWq
              obtain ⟨tb', to', a1, c3, e, hb1', d1, hi1⟩ := hrq.at pi hpin
              simp only [Option.some.injEq, Addr.mk.injEq, and_true] at e
              obtain ⟨rfl, rfl⟩ := e
              rw [hrow.out pi hpin] at d1 hi1
              have hjl1 : qj < t[pi].length := by rw [hrow.out pi hpin]; exact hqjm
              obtain ⟨b2, o2, rfl, hb2, d2⟩ := hi1.at qj hjl1
              rw [ent_eq t pi qj hpin hjl1] at d2
              obtain ⟨tb', to', a2, c4, e, hb1', d3, hi2⟩ := hrq.at qi hqin
              simp only [Option.some.injEq, Addr.mk.injEq, and_true] at e
              obtain ⟨rfl, rfl⟩ := e
              rw [hrow.out qi hqin] at d3 hi2
              have hjl2 : pj < t[qi].length := by rw [hrow.out qi hqin]; exact hpjm
              obtain ⟨b3, o3, rfl, hb3, d4⟩ := hi2.at pj hjl2
              rw [ent_eq t qi pj hqin hjl2] at d4
              obtain ⟨x1, hx1⟩ : ∃ z, z = ent t pi qj := ⟨_, rfl⟩
              obtain ⟨x2, hx2⟩ : ∃ z, z = ent t qi pj := ⟨_, rfl⟩
              rw [← hx1, ← hx2] at hnx
              rw [← hx1] at d2
              rw [← hx2] at d4
              clear hx1 hx2 hi1 hi2 hrq hvs hqb
              cases hfl : (L.take l).all (ok2 t bit (wid t) q0)
              · have hKf : Hid ((L.take (l + 1)).all (ok2 t bit (wid t) q0) = false) := Lib.hid (by rw [hnx.out, hfl]; rfl)
                replace hfl := Lib.hid hfl
                go_quiet (fail)
                generalize hwd : World.drewN _ _ = wd
                have hD := fun q => below_drewN (Below.refl wq.heap.size wq) q
                replace hD : Below wq.heap.size wq wd := hwd ▸ hD _
                have hBd := bstep (bstep hBs hBq) hD
                clear hwd hD s0 s1 p0 p1 sT sI d1 d2 d3 d4 hBs hBq
                go_wp2
                go_roundw
                case rel => first | exact ⟨l + 1, by omega, by go_num, by rw [hKf.out], hBd⟩ | ((repeat apply Exists.intro); exact ⟨⟨l + 1, by omega, rfl, by rw [hKf.out], hBd⟩, rfl⟩)
                case measure => simp [intOf]; omega
              · cases hq1 : (x1 != bit)
                · cases hq2 : (x2 != bit)
                  · have hKf : Hid ((L.take (l + 1)).all (ok2 t bit (wid t) q0) = false) := Lib.hid (by rw [hnx.out, hfl, hq1, hq2]; rfl)
                    replace hfl := Lib.hid hfl
                    go_quiet (fail)
                    generalize hwd : World.drewN _ _ = wd
                    have hD := fun q => below_drewN (Below.refl wq.heap.size wq) q
                    replace hD : Below wq.heap.size wq wd := hwd ▸ hD _
                    have hBd := bstep (bstep hBs hBq) hD
                    clear hwd hD s0 s1 p0 p1 sT sI d1 d2 d3 d4 hBs hBq
                    go_wp2
                    go_roundw
                    case rel => first | exact ⟨l + 1, by omega, by go_num, by rw [hKf.out], hBd⟩ | ((repeat apply Exists.intro); exact ⟨⟨l + 1, by omega, rfl, by rw [hKf.out], hBd⟩, rfl⟩)
                    case measure => simp [intOf]; omega
                  · have hKf : Hid ((L.take (l + 1)).all (ok2 t bit (wid t) q0) = true) := Lib.hid (by rw [hnx.out, hfl, hq1, hq2]; rfl)
                    replace hfl := Lib.hid hfl
                    go_quiet (fail)
                    generalize hwd : World.drewN _ _ = wd
                    have hD := fun q => below_drewN (Below.refl wq.heap.size wq) q
                    replace hD : Below wq.heap.size wq wd := hwd ▸ hD _
                    have hBd := bstep (bstep hBs hBq) hD
                    clear hwd hD s0 s1 p0 p1 sT sI d1 d2 d3 d4 hBs hBq
                    go_wp2
                    go_roundw
                    case rel => first | exact ⟨l + 1, by omega, by go_num, by rw [hKf.out], hBd⟩ | ((repeat apply Exists.intro); exact ⟨⟨l + 1, by omega, rfl, by rw [hKf.out], hBd⟩, rfl⟩)
                    case measure => simp [intOf]; omega
                · have hKf : Hid ((L.take (l + 1)).all (ok2 t bit (wid t) q0) = true) := Lib.hid (by rw [hnx.out, hfl, hq1]; rfl)
                  replace hfl := Lib.hid hfl
                  go_quiet (fail)
                  generalize hwd : World.drewN _ _ = wd
                  have hD := fun q => below_drewN (Below.refl wq.heap.size wq) q
                  replace hD : Below wq.heap.size wq wd := hwd ▸ hD _
                  have hBd := bstep (bstep hBs hBq) hD
                  clear hwd hD s0 s1 p0 p1 sT sI d1 d2 d3 d4 hBs hBq
                  go_wp2
                  go_roundw
                  case rel => first | exact ⟨l + 1, by omega, by go_num, by rw [hKf.out], hBd⟩ | ((repeat apply Exists.intro); exact ⟨⟨l + 1, by omega, rfl, by rw [hKf.out], hBd⟩, rfl⟩)
                  case measure => simp [intOf]; omega
            · obtain rfl : l = L.length := by omega
              rw [List.take_length]
              cases hff : L.all (ok2 t bit (wid t) q0)
              · have hRn : Hid (loopF (fits2 t bit (wid t)) (A.drop (k + 1)) L b = R) := Lib.hid (loop_drop_no hlk hRa.out (by unfold fits2; rw [← hq0.out]; exact hff))
                replace hK2 := hK2.trans (keptB hBrs)
                replace hbB2 := blk_later hBrs hbB2
                replace hown2 := OwnD.below hown2 hBrs
                clear hff hRa
                go_wp2
                go_roundw
                case rel => first | exact ⟨k + 1, b, bv2, by omega, by omega, by go_num, hK2, hbB2, hown2, hRn, hbl⟩ | ((repeat apply Exists.intro); exact ⟨⟨k + 1, b, bv2, by omega, by omega, rfl, hK2, hbB2, hown2, hRn, hbl⟩, rfl⟩)
                case measure => simp [intOf]; omega
              · have hRn : Hid (loopF (fits2 t bit (wid t)) (A.drop (k + 1)) L (loopF (fits2 t bit (wid t)) (A.drop (k + 1)) (L ++ [q0]) (longer b (L ++ [q0]))) = R) := Lib.hid (by rw [hq0.out]; exact loop_drop_yes hlk hRa.out (by unfold fits2; rw [← hq0.out]; exact hff))
                clear hff hRa
                have hK3 := hK2.trans (keptB hBrs)
                have hbB3 := blk_later hBrs hbB2
                have hown3 : OwnPr wr Bb bv2 (prL (wid t) b) := OwnD.below hown2 hBrs
                have hbE3 := blk_later hBrs hbE2
                rw [hfn.out] at hbE3
                have hW4 : Below bB W0 wr := hW2.trans (hBrs.mono (by omega))
                have hpb3 := blk_later hBs hpb
                have z0 := (blk1 hbE3).1
                obtain ⟨p0, p1, -, -⟩ := blk2P hpb3
                have hpbl : wo.heap.size < wr.heap.size := (Array.getElem?_eq_some_iff.1 hpb3).1
                have hEl : bB + 1 < wr.heap.size := (Array.getElem?_eq_some_iff.1 hbE3).1
                have hrec := ih.out (A.length - (k + 1)) (by omega) (k + 1) (L ++ [q0]) b
                have hL1 : (L ++ [q0]).length ≤ k + 1 := by simp; omega
                have hLm1 : ∀ x ∈ L ++ [q0], x < t.length * wid t := by
                  intro x hx
                  rcases List.mem_append.1 hx with h1 | h1
                  · exact hLm.out x h1
                  · simp at h1; omega
                have hX16 : (loopF (fits2 t bit (wid t)) (A.drop (k + 1)) (L ++ [q0]) (longer b (L ++ [q0]))).length ≤ 16 := by
                  refine loop_len _ _ _ _ 16 ?_ (by simp; omega)
                  unfold longer
                  split
                  · simp; omega
                  · exact hbl
                rw [hfn.out] at hrec
                replace hrec := Lib.hid hrec
                replace hLm1 := Lib.hid hLm1
                clear hK2 hbB2 hown2 hbE2 hW2 hpb
                have hcap : L.length ≤ cL := by obtain ⟨_, _, e, hl, -⟩ := hvs; simp only [Value.slice.injEq] at e; rw [prL_len] at hl; have := e.2.2; omega
                go_wp2_with fail
                refine wp_region_gen (by kernel_rfl) [none, none, none, none, none, none, none, none, none, none, none, none, none, none, none, none, none, none, none, none, none, none, none, none, none, none, none, none, none, none, none, none, none, none, none, none, none, none, none, none, none, none, none, none, none, none, none, none, none, none, none, none, none, none, none, none, none, none, none, none, none, none, none, none, none, none, none, some 0, some 1, some 2, some 3, some 4, some 5, some 6, some 7, some 8, some 9, some 10, some 11, some 12] 12 (by kernel_rfl) (by kernel_rfl) (by kernel_rfl) _ rfl (fun i v x w => match i with | 0 => v = .func (.func 115) #[] #[.pointer (some ⟨bB, 0, none⟩), .pointer (some ⟨bA, 0, none⟩), .pointer (some ⟨bT, 0, none⟩), .pointer (some ⟨bI, 0, none⟩), .pointer (some ⟨bB + 1, 0, none⟩)] | 1 => v = .slice aL L.length cL | 2 => v = .slice aL L.length cL | 3 => v = .int .i64 (L.length : Int) | 4 => v = .slice aL L.length cL | 5 => v = .int .i64 (L.length : Int) | 6 => v = .slice aL L.length L.length | 7 => v = .agg #[.int .i64 pi, .int .i64 pj] | 8 => v = .slice (some ⟨x.1, 0, none⟩) 1 1 ∧ w.heap[x.1]? = some (.cells #[.int .i64 pi, .int .i64 pj] 76 (0, 0)) | 9 => OwnPr w wr.heap.size v (prL (wid t) (L ++ [q0])) | 10 => v = .int .i64 (k : Int) | 11 => v = .int .i64 ((k : Int) + 1) | _ => True) ?_ ?_ ?_
                · intro i v x w w' h hb
                  rcases i with _ | _ | _ | _ | _ | _ | _ | _ | _ | _ | _ | _ | i
                  all_goals simp only at h ⊢
                  all_goals first | exact h | exact ⟨h.1, blk_later hb h.2⟩ | exact OwnD.below h hb
                · intro i o ho hi u g ww hbw hd
                  obtain ⟨hcl, hfr⟩ := bcell hbw
                  have y_z0 := (hcl _ _ hEl).trans z0
                  have y_p0 := (hcl _ _ hpbl).trans p0
                  have y_p1 := (hcl _ _ hpbl).trans p1
                  have hszw := hbw.size
                  clear hcl hfr
                  rcases i with _ | _ | _ | _ | _ | _ | _ | _ | _ | _ | _ | _ | _ | i
                  all_goals try obtain rfl := Option.some.inj ho
                  all_goals try simp only [putAll, fillL]
                  · go_wp2
                    exact ⟨_, rfl, kept00 (Below.refl _ _), rfl⟩
                  · go_wp2
                    exact ⟨_, rfl, kept00 (Below.refl _ _), rfl⟩
                  · go_wp2
                    exact ⟨_, rfl, kept00 (Below.refl _ _), rfl⟩
                  · have e2 : u 2 = .slice aL L.length cL := hd 2 (by decide)
                    rw [e2]
                    go_wp2
                    exact ⟨_, by simp only [putAll, fillL, e2] <;> rfl, kept00 (Below.refl _ _), rfl⟩
                  · go_wp2
                    exact ⟨_, rfl, kept00 (Below.refl _ _), rfl⟩
                  · have e4 : u 4 = .slice aL L.length cL := hd 4 (by decide)
                    rw [e4]
                    go_wp2
                    exact ⟨_, by simp only [putAll, fillL, e4] <;> rfl, kept00 (Below.refl _ _), rfl⟩
                  · have e1 : u 1 = .slice aL L.length cL := hd 1 (by decide)
                    have e3 : u 3 = .int .i64 (L.length : Int) := hd 3 (by decide)
                    have e5 : u 5 = .int .i64 (L.length : Int) := hd 5 (by decide)
                    rw [e1, e3, e5]
                    rcases aL with _ | ⟨lb, lo, ls⟩
                    · go_wp2
                      exact ⟨_, by simp only [putAll, fillL, e1, e3, e5] <;> rfl, kept00 (Below.refl _ _), rfl⟩
                    · go_wp2
                      exact ⟨_, by simp only [putAll, fillL, e1, e3, e5] <;> rfl, kept00 (Below.refl _ _), rfl⟩
                  · go_wp2
                    exact ⟨_, rfl, kept00 (Below.refl _ _), rfl⟩
                  · have e7 : u 7 = .agg #[.int .i64 pi, .int .i64 pj] := hd 7 (by decide)
                    rw [e7]
                    go_wp2
                    exact ⟨_, by simp only [putAll, fillL, e7] <;> rfl, kept00 ((Below.refl _ _).alloc (Nat.le_refl _) _), rfl, heap_alloc_at rfl⟩
                  · have e6 : u 6 = .slice aL L.length L.length := hd 6 (by decide)
                    have e8 : u 8 = .slice (some ⟨(g 8).1, 0, none⟩) 1 1 ∧ ww.heap[(g 8).1]? = some (.cells #[.int .i64 pi, .int .i64 pj] 76 (0, 0)) := hd 8 (by decide)
                    obtain ⟨e8, h8⟩ := e8
                    rw [e6, e8]
                    refine wp_append_full ww rfl _ _ rfl aL L.length cL (prL (wid t) L) rfl (prL_len _ _).symm (hvs.below hbw) (pi : Int) (pj : Int) (g 8).1 rfl h8 (by rw [prL_len]; omega) ?_
                    intro v' w' hn' hb'
                    rw [← hpc.out, prL_app] at hn'
                    go_wp2
                    exact ⟨_, by simp only [putAll, fillL, e6, e8] <;> rfl, kept00 hb', OwnD.mono hn' (by omega)⟩
                  · go_wp2
                    exact ⟨_, rfl, kept00 (Below.refl _ _), rfl⟩
                  · have e10 : u 10 = .int .i64 (k : Int) := hd 10 (by decide)
                    rw [e10]
                    go_wp2
                    exact ⟨_, by simp only [putAll, fillL, e10] <;> rfl, kept00 (Below.refl _ _), rfl⟩
                  · exact absurd rfl hi
                  · simp at ho
                · intro u g ww hbw hR
                  have e0 : u 0 = .func (.func 115) #[] #[.pointer (some ⟨bB, 0, none⟩), .pointer (some ⟨bA, 0, none⟩), .pointer (some ⟨bT, 0, none⟩), .pointer (some ⟨bI, 0, none⟩), .pointer (some ⟨bB + 1, 0, none⟩)] := hR 0 (by decide) (by decide)
                  have e9 : OwnPr ww wr.heap.size (u 9) (prL (wid t) (L ++ [q0])) := hR 9 (by decide) (by decide)
                  have e11 : u 11 = .int .i64 ((k : Int) + 1) := hR 11 (by decide) (by decide)
                  have hcall := hrec.out (u 9) bv2 ww (by trivial) (by omega) (hW4.trans (hbw.mono (by omega))) (blk_later hbw hbB3) (blk_later hbw hbE3) (OwnD.below hown3 hbw) hbl hL1 (OwnPr.pairs e9) hLm1.out
                  rw [show (((k + 1 : Nat)) : Int) = (k : Int) + 1 from rfl] at hcall
                  have hK5 := hK3.trans (keptB hbw)
                  simp only [putAll, fillL]
                  rw [e0, e11]
                  clear e0 e11 hR z0 p0 p1
                  go_wp2_with fail
                  refine hcall.mono ?_
                  rintro e w9 ⟨⟨xr, rfl⟩, hk9, bv9, hb9, hown9⟩
                  have hK9 := hK5.trans hk9
                  clear hcall hK5 hK3 hbB3 hown3 hbE3 hW4
                  go_wp2
                  go_roundw
                  case rel => first | exact ⟨k + 1, _, bv9, by omega, by omega, by go_num, hK9, hb9, hown9, hRn, hX16⟩ | ((repeat apply Exists.intro); exact ⟨⟨k + 1, _, bv9, by omega, by omega, rfl, hK9, hb9, hown9, hRn, hX16⟩, rfl⟩)
                  case measure => simp [intOf]; omega
        · obtain rfl : k = A.length := by omega
          have hbR : b = R := by have := hRa.out; rw [List.drop_length] at this; exact this
          subst hbR
          go_wp2
          go_end0
          exact ⟨⟨_, rfl⟩, hK2, bv2, hbB2, hown2⟩
    · have hdc : decide ((best.length : Int) < (L.length : Int)) = false := by simp; omega
      have hRX : Hid (loopF (fits2 t bit (wid t)) (A.drop from') L best = R) := Lib.hid (by rw [hR, show longer best L = best from if_neg hc])
      clear hR
      have hKX : KeptOff (fun q => q = bB) w w := KeptOff.refl _ _
      have hbBX := hbBw
      have hownX := hown
      have hblX := hbl0
      go_enter Try.func115, Try.ntmps115
      go_wp2_with fail
      go_loopw [9] (fun i wr => ∃ (k : Nat) (b : List Nat) (bv' : Value), from' ≤ k ∧ k ≤ A.length ∧ i = .int .i64 k ∧ KeptOff (fun q => q = bB) w wr ∧ wr.heap[bB]? = some (.cells #[bv'] 36 (0, 0)) ∧ OwnPr wr Bb bv' (prL (wid t) b) ∧ Hid (loopF (fits2 t bit (wid t)) (A.drop k) L b = R) ∧ b.length ≤ 16) (fun i _ => A.length - (intOf i).toNat)
      case atStart => exact ⟨from', best, .slice aV best.length cV, Nat.le_refl _, hfr, rfl, hKX, hbBX, hownX, hRX, hblX⟩
      case round =>
        clear hKX hbBX hownX hRX hblX
        obtain ⟨k, b, bv2, hk1, hk2, rfl, hK2, hbB2, hown2, hRa, hbl⟩ := hrel
        obtain ⟨wo, rfl⟩ : ∃ wo : World, wo = wr := ⟨_, rfl⟩
        have hszk := hK2.size
        have hW2 : Below bB W0 wo := hW.trans (hK2.below (fun q hq => by omega) (by omega))
        have hbE2 : wo.heap[bB + 1]? = some (.cells #[fn] 116 (0, 0)) := (hK2.block (bB + 1) (by omega) (by omega)).trans hbE
        have hW3 : Below W0.heap.size W0 wo := hbB.out ▸ hW2
        have hsW := hW3.size
        have hbq := hbB.out
        have z3 := (blk1 ((hW2.block _ hlt.2.2).trans hA)).1
        by_cases hlk : k < A.length
        · have hdk : decide ((k : Int) < (A.length : Int)) = true := by simp; omega
          obtain ⟨q0, hq0⟩ : ∃ z, z = A[k] := ⟨_, rfl⟩
          have hq0N : q0 < t.length * wid t := by rw [hq0]; exact hAN.out _ (List.getElem_mem hlk)
          obtain ⟨pi, hpi⟩ : ∃ z, z = q0 / wid t := ⟨_, rfl⟩
          obtain ⟨pj, hpj⟩ : ∃ z, z = q0 % wid t := ⟨_, rfl⟩
          have hpin : pi < t.length := by rw [hpi]; exact Nat.div_lt_of_lt_mul (by rw [Nat.mul_comm]; exact hq0N)
          have hpjm : pj < wid t := by rw [hpj]; exact Nat.mod_lt _ (by omega)
          obtain ⟨ab, ao, rfl, hab, c1, c2⟩ := (ha0.below hW3).at k (by rw [prL_len]; exact hlk)
          have hpk : (prL (wid t) A)[k]'(by rw [prL_len]; exact hlk) = ((pi : Int), (pj : Int)) := by rw [hpi, hpj, hq0]; simp [prL, prC]
          rw [hpk] at c1 c2
          have hpc : prC (wid t) q0 = ((pi : Int), (pj : Int)) := by unfold prC; rw [hpi, hpj]
          replace hq0 := Lib.hid hq0
          replace hpi := Lib.hid hpi
          replace hpj := Lib.hid hpj
          replace hpc := Lib.hid hpc
          replace hbq := Lib.hid hbq
          clear hpk
          go_wp2_with fail
          obtain ⟨wp, hwp⟩ : ∃ z, z = wo.alloc (.cells #[.int .i64 pi, .int .i64 pj] 76) := ⟨_, rfl⟩
          have hpb : wp.heap[wo.heap.size]? = some (.cells #[.int .i64 pi, .int .i64 pj] 76 (0, 0)) := by rw [hwp]; exact heap_alloc_at rfl
          have hBp : Below wo.heap.size wo wp := by rw [hwp]; exact (Below.refl _ _).alloc (Nat.le_refl _) _
          have hsp : wp.heap.size = wo.heap.size + 1 := by rw [hwp]; simp
          rw [← hwp]
          clear hwp c1 c2 z3
          go_loopw [11, 34] (fun f i wr => ∃ l : Nat, l ≤ L.length ∧ i = .int .i64 l ∧ f = .bool ((L.take l).all (ok2 t bit (wid t) q0)) ∧ Below wp.heap.size wp wr) (fun _ i _ => L.length - (intOf i).toNat)
          case atStart => exact ⟨0, Nat.zero_le _, rfl, by simp, Below.refl _ _⟩
          case round =>
            obtain ⟨l, hl1, rfl, rfl, hBs⟩ := hrel
            have hBrs := bstep hBp hBs
            have hsws := hBs.size
            have hvs := (pairs_kept hv hK2 hbBw (by intro x e; cases e)).below hBrs
            by_cases hll : l < L.length
            · have hdl : decide ((l : Int) < (L.length : Int)) = true := by simp; omega
              obtain ⟨q1, hq1⟩ : ∃ z, z = L[l] := ⟨_, rfl⟩
              have hq1N : q1 < t.length * wid t := by rw [hq1]; exact hLm.out _ (List.getElem_mem hll)
              obtain ⟨qi, hqi⟩ : ∃ z, z = q1 / wid t := ⟨_, rfl⟩
              obtain ⟨qj, hqj⟩ : ∃ z, z = q1 % wid t := ⟨_, rfl⟩
              have hqin : qi < t.length := by rw [hqi]; exact Nat.div_lt_of_lt_mul (by rw [Nat.mul_comm]; exact hq1N)
              have hqjm : qj < wid t := by rw [hqj]; exact Nat.mod_lt _ (by omega)
              obtain ⟨lb, lo, rfl, hlb, c1, c2⟩ := hvs.at l (by rw [prL_len]; exact hll)
              have hpk : (prL (wid t) L)[l]'(by rw [prL_len]; exact hll) = ((qi : Int), (qj : Int)) := by rw [hqi, hqj, hq1]; simp [prL, prC]
              rw [hpk] at c1 c2
              have hok0 : ok2 t bit (wid t) q0 L[l] = ((ent t pi qj != bit) || (ent t qi pj != bit)) := by unfold ok2; rw [← hq1, ← hpi.out, ← hpj.out, ← hqi, ← hqj]
              have hnx := all_take_next (ok2 t bit (wid t) q0) L l hll
              rw [hok0] at hnx
              replace hnx := Lib.hid hnx
              clear hpk hq1 hqi hqj hok0
              go_wp2_with fail
              obtain ⟨wq, hwq⟩ : ∃ z, z = wr.alloc (.cells #[.int .i64 qi, .int .i64 qj] 76) := ⟨_, rfl⟩
              have hqb : wq.heap[wr.heap.size]? = some (.cells #[.int .i64 qi, .int .i64 qj] 76 (0, 0)) := by rw [hwq]; exact heap_alloc_at rfl
              have hBq : Below wr.heap.size wr wq := by rw [hwq]; exact (Below.refl _ _).alloc (Nat.le_refl _) _
              rw [← hwq]
              clear hwq c1 c2
              have hBrq := bstep hBrs hBq
              have hWq : Below W0.heap.size W0 wq := hW3.trans (hBrq.mono (by omega))
              obtain ⟨s0, s1, -, -⟩ := blk2P hqb
              obtain ⟨p0, p1, -, -⟩ := blk2P (blk_later (bstep hBs hBq) hpb)
              have sT := (blk1 ((hWq.block _ (by have := hbq.out; omega)).trans hT)).1
              have sI := (blk1 ((hWq.block _ (by have := hbq.out; omega)).trans hI)).1
              have hrq := hr0.below hWq
              obtain ⟨tb', to', a1, c3, e, hb1', d1, hi1⟩ := hrq.at pi hpin
              simp only [Option.some.injEq, Addr.mk.injEq, and_true] at e
              obtain ⟨rfl, rfl⟩ := e
              rw [hrow.out pi hpin] at d1 hi1
              have hjl1 : qj < t[pi].length := by rw [hrow.out pi hpin]; exact hqjm
              obtain ⟨b2, o2, rfl, hb2, d2⟩ := hi1.at qj hjl1
              rw [ent_eq t pi qj hpin hjl1] at d2
              obtain ⟨tb', to', a2, c4, e, hb1', d3, hi2⟩ := hrq.at qi hqin
              simp only [Option.some.injEq, Addr.mk.injEq, and_true] at e
              obtain ⟨rfl, rfl⟩ := e
              rw [hrow.out qi hqin] at d3 hi2
              have hjl2 : pj < t[qi].length := by rw [hrow.out qi hqin]; exact hpjm
              obtain ⟨b3, o3, rfl, hb3, d4⟩ := hi2.at pj hjl2
              rw [ent_eq t qi pj hqin hjl2] at d4
              obtain ⟨x1, hx1⟩ : ∃ z, z = ent t pi qj := ⟨_, rfl⟩
              obtain ⟨x2, hx2⟩ : ∃ z, z = ent t qi pj := ⟨_, rfl⟩
              rw [← hx1, ← hx2] at hnx
              rw [← hx1] at d2
              rw [← hx2] at d4
              clear hx1 hx2 hi1 hi2 hrq hvs hqb
              cases hfl : (L.take l).all (ok2 t bit (wid t) q0)
              · have hKf : Hid ((L.take (l + 1)).all (ok2 t bit (wid t) q0) = false) := Lib.hid (by rw [hnx.out, hfl]; rfl)
                replace hfl := Lib.hid hfl
                go_quiet (fail)
                generalize hwd : World.drewN _ _ = wd
                have hD := fun q => below_drewN (Below.refl wq.heap.size wq) q
                replace hD : Below wq.heap.size wq wd := hwd ▸ hD _
                have hBd := bstep (bstep hBs hBq) hD
                clear hwd hD s0 s1 p0 p1 sT sI d1 d2 d3 d4 hBs hBq
                go_wp2
                go_roundw
                case rel => first | exact ⟨l + 1, by omega, by go_num, by rw [hKf.out], hBd⟩ | ((repeat apply Exists.intro); exact ⟨⟨l + 1, by omega, rfl, by rw [hKf.out], hBd⟩, rfl⟩)
                case measure => simp [intOf]; omega
              · cases hq1 : (x1 != bit)
                · cases hq2 : (x2 != bit)
                  · have hKf : Hid ((L.take (l + 1)).all (ok2 t bit (wid t) q0) = false) := Lib.hid (by rw [hnx.out, hfl, hq1, hq2]; rfl)
                    replace hfl := Lib.hid hfl
                    go_quiet (fail)
                    generalize hwd : World.drewN _ _ = wd
                    have hD := fun q => below_drewN (Below.refl wq.heap.size wq) q
                    replace hD : Below wq.heap.size wq wd := hwd ▸ hD _
                    have hBd := bstep (bstep hBs hBq) hD
                    clear hwd hD s0 s1 p0 p1 sT sI d1 d2 d3 d4 hBs hBq
                    go_wp2
                    go_roundw
                    case rel => first | exact ⟨l + 1, by omega, by go_num, by rw [hKf.out], hBd⟩ | ((repeat apply Exists.intro); exact ⟨⟨l + 1, by omega, rfl, by rw [hKf.out], hBd⟩, rfl⟩)
                    case measure => simp [intOf]; omega
                  · have hKf : Hid ((L.take (l + 1)).all (ok2 t bit (wid t) q0) = true) := Lib.hid (by rw [hnx.out, hfl, hq1, hq2]; rfl)
                    replace hfl := Lib.hid hfl
                    go_quiet (fail)
                    generalize hwd : World.drewN _ _ = wd
                    have hD := fun q => below_drewN (Below.refl wq.heap.size wq) q
                    replace hD : Below wq.heap.size wq wd := hwd ▸ hD _
                    have hBd := bstep (bstep hBs hBq) hD
                    clear hwd hD s0 s1 p0 p1 sT sI d1 d2 d3 d4 hBs hBq
                    go_wp2
                    go_roundw
                    case rel => first | exact ⟨l + 1, by omega, by go_num, by rw [hKf.out], hBd⟩ | ((repeat apply Exists.intro); exact ⟨⟨l + 1, by omega, rfl, by rw [hKf.out], hBd⟩, rfl⟩)
                    case measure => simp [intOf]; omega
                · have hKf : Hid ((L.take (l + 1)).all (ok2 t bit (wid t) q0) = true) := Lib.hid (by rw [hnx.out, hfl, hq1]; rfl)
                  replace hfl := Lib.hid hfl
                  go_quiet (fail)
                  generalize hwd : World.drewN _ _ = wd
                  have hD := fun q => below_drewN (Below.refl wq.heap.size wq) q
                  replace hD : Below wq.heap.size wq wd := hwd ▸ hD _
                  have hBd := bstep (bstep hBs hBq) hD
                  clear hwd hD s0 s1 p0 p1 sT sI d1 d2 d3 d4 hBs hBq
                  go_wp2
                  go_roundw
                  case rel => first | exact ⟨l + 1, by omega, by go_num, by rw [hKf.out], hBd⟩ | ((repeat apply Exists.intro); exact ⟨⟨l + 1, by omega, rfl, by rw [hKf.out], hBd⟩, rfl⟩)
                  case measure => simp [intOf]; omega
            · obtain rfl : l = L.length := by omega
              rw [List.take_length]
              cases hff : L.all (ok2 t bit (wid t) q0)
              · have hRn : Hid (loopF (fits2 t bit (wid t)) (A.drop (k + 1)) L b = R) := Lib.hid (loop_drop_no hlk hRa.out (by unfold fits2; rw [← hq0.out]; exact hff))
                replace hK2 := hK2.trans (keptB hBrs)
                replace hbB2 := blk_later hBrs hbB2
                replace hown2 := OwnD.below hown2 hBrs
                clear hff hRa
                go_wp2
                go_roundw
                case rel => first | exact ⟨k + 1, b, bv2, by omega, by omega, by go_num, hK2, hbB2, hown2, hRn, hbl⟩ | ((repeat apply Exists.intro); exact ⟨⟨k + 1, b, bv2, by omega, by omega, rfl, hK2, hbB2, hown2, hRn, hbl⟩, rfl⟩)
                case measure => simp [intOf]; omega
              · have hRn : Hid (loopF (fits2 t bit (wid t)) (A.drop (k + 1)) L (loopF (fits2 t bit (wid t)) (A.drop (k + 1)) (L ++ [q0]) (longer b (L ++ [q0]))) = R) := Lib.hid (by rw [hq0.out]; exact loop_drop_yes hlk hRa.out (by unfold fits2; rw [← hq0.out]; exact hff))
                clear hff hRa
                have hK3 := hK2.trans (keptB hBrs)
                have hbB3 := blk_later hBrs hbB2
                have hown3 : OwnPr wr Bb bv2 (prL (wid t) b) := OwnD.below hown2 hBrs
                have hbE3 := blk_later hBrs hbE2
                rw [hfn.out] at hbE3
                have hW4 : Below bB W0 wr := hW2.trans (hBrs.mono (by omega))
                have hpb3 := blk_later hBs hpb
                have z0 := (blk1 hbE3).1
                obtain ⟨p0, p1, -, -⟩ := blk2P hpb3
                have hpbl : wo.heap.size < wr.heap.size := (Array.getElem?_eq_some_iff.1 hpb3).1
                have hEl : bB + 1 < wr.heap.size := (Array.getElem?_eq_some_iff.1 hbE3).1
                have hrec := ih.out (A.length - (k + 1)) (by omega) (k + 1) (L ++ [q0]) b
                have hL1 : (L ++ [q0]).length ≤ k + 1 := by simp; omega
                have hLm1 : ∀ x ∈ L ++ [q0], x < t.length * wid t := by
                  intro x hx
                  rcases List.mem_append.1 hx with h1 | h1
                  · exact hLm.out x h1
                  · simp at h1; omega
                have hX16 : (loopF (fits2 t bit (wid t)) (A.drop (k + 1)) (L ++ [q0]) (longer b (L ++ [q0]))).length ≤ 16 := by
                  refine loop_len _ _ _ _ 16 ?_ (by simp; omega)
                  unfold longer
                  split
                  · simp; omega
                  · exact hbl
                rw [hfn.out] at hrec
                replace hrec := Lib.hid hrec
                replace hLm1 := Lib.hid hLm1
                clear hK2 hbB2 hown2 hbE2 hW2 hpb
                have hcap : L.length ≤ cL := by obtain ⟨_, _, e, hl, -⟩ := hvs; simp only [Value.slice.injEq] at e; rw [prL_len] at hl; have := e.2.2; omega
                go_wp2_with fail
                refine wp_region_gen (by kernel_rfl) [none, none, none, none, none, none, none, none, none, none, none, none, none, none, none, none, none, none, none, none, none, none, none, none, none, none, none, none, none, none, none, none, none, none, none, none, none, none, none, none, none, none, none, none, none, none, none, none, none, none, none, none, none, none, none, none, none, none, none, none, none, none, none, none, none, none, none, some 0, some 1, some 2, some 3, some 4, some 5, some 6, some 7, some 8, some 9, some 10, some 11, some 12] 12 (by kernel_rfl) (by kernel_rfl) (by kernel_rfl) _ rfl (fun i v x w => match i with | 0 => v = .func (.func 115) #[] #[.pointer (some ⟨bB, 0, none⟩), .pointer (some ⟨bA, 0, none⟩), .pointer (some ⟨bT, 0, none⟩), .pointer (some ⟨bI, 0, none⟩), .pointer (some ⟨bB + 1, 0, none⟩)] | 1 => v = .slice aL L.length cL | 2 => v = .slice aL L.length cL | 3 => v = .int .i64 (L.length : Int) | 4 => v = .slice aL L.length cL | 5 => v = .int .i64 (L.length : Int) | 6 => v = .slice aL L.length L.length | 7 => v = .agg #[.int .i64 pi, .int .i64 pj] | 8 => v = .slice (some ⟨x.1, 0, none⟩) 1 1 ∧ w.heap[x.1]? = some (.cells #[.int .i64 pi, .int .i64 pj] 76 (0, 0)) | 9 => OwnPr w wr.heap.size v (prL (wid t) (L ++ [q0])) | 10 => v = .int .i64 (k : Int) | 11 => v = .int .i64 ((k : Int) + 1) | _ => True) ?_ ?_ ?_
                · intro i v x w w' h hb
                  rcases i with _ | _ | _ | _ | _ | _ | _ | _ | _ | _ | _ | _ | i
                  all_goals simp only at h ⊢
                  all_goals first | exact h | exact ⟨h.1, blk_later hb h.2⟩ | exact OwnD.below h hb
                · intro i o ho hi u g ww hbw hd
                  obtain ⟨hcl, hfr⟩ := bcell hbw
                  have y_z0 := (hcl _ _ hEl).trans z0
                  have y_p0 := (hcl _ _ hpbl).trans p0
                  have y_p1 := (hcl _ _ hpbl).trans p1
                  have hszw := hbw.size
                  clear hcl hfr
                  rcases i with _ | _ | _ | _ | _ | _ | _ | _ | _ | _ | _ | _ | _ | i
                  all_goals try obtain rfl := Option.some.inj ho
                  all_goals try simp only [putAll, fillL]
                  · go_wp2
                    exact ⟨_, rfl, kept00 (Below.refl _ _), rfl⟩
                  · go_wp2
                    exact ⟨_, rfl, kept00 (Below.refl _ _), rfl⟩
                  · go_wp2
                    exact ⟨_, rfl, kept00 (Below.refl _ _), rfl⟩
                  · have e2 : u 2 = .slice aL L.length cL := hd 2 (by decide)
                    rw [e2]
                    go_wp2
                    exact ⟨_, by simp only [putAll, fillL, e2] <;> rfl, kept00 (Below.refl _ _), rfl⟩
                  · go_wp2
                    exact ⟨_, rfl, kept00 (Below.refl _ _), rfl⟩
                  · have e4 : u 4 = .slice aL L.length cL := hd 4 (by decide)
                    rw [e4]
                    go_wp2
                    exact ⟨_, by simp only [putAll, fillL, e4] <;> rfl, kept00 (Below.refl _ _), rfl⟩
                  · have e1 : u 1 = .slice aL L.length cL := hd 1 (by decide)
                    have e3 : u 3 = .int .i64 (L.length : Int) := hd 3 (by decide)
                    have e5 : u 5 = .int .i64 (L.length : Int) := hd 5 (by decide)
                    rw [e1, e3, e5]
                    rcases aL with _ | ⟨lb, lo, ls⟩
                    · go_wp2
                      exact ⟨_, by simp only [putAll, fillL, e1, e3, e5] <;> rfl, kept00 (Below.refl _ _), rfl⟩
                    · go_wp2
                      exact ⟨_, by simp only [putAll, fillL, e1, e3, e5] <;> rfl, kept00 (Below.refl _ _), rfl⟩
                  · go_wp2
                    exact ⟨_, rfl, kept00 (Below.refl _ _), rfl⟩
                  · have e7 : u 7 = .agg #[.int .i64 pi, .int .i64 pj] := hd 7 (by decide)
                    rw [e7]
                    go_wp2
                    exact ⟨_, by simp only [putAll, fillL, e7] <;> rfl, kept00 ((Below.refl _ _).alloc (Nat.le_refl _) _), rfl, heap_alloc_at rfl⟩
                  · have e6 : u 6 = .slice aL L.length L.length := hd 6 (by decide)
                    have e8 : u 8 = .slice (some ⟨(g 8).1, 0, none⟩) 1 1 ∧ ww.heap[(g 8).1]? = some (.cells #[.int .i64 pi, .int .i64 pj] 76 (0, 0)) := hd 8 (by decide)
                    obtain ⟨e8, h8⟩ := e8
                    rw [e6, e8]
                    refine wp_append_full ww rfl _ _ rfl aL L.length cL (prL (wid t) L) rfl (prL_len _ _).symm (hvs.below hbw) (pi : Int) (pj : Int) (g 8).1 rfl h8 (by rw [prL_len]; omega) ?_
                    intro v' w' hn' hb'
                    rw [← hpc.out, prL_app] at hn'
                    go_wp2
                    exact ⟨_, by simp only [putAll, fillL, e6, e8] <;> rfl, kept00 hb', OwnD.mono hn' (by omega)⟩
                  · go_wp2
                    exact ⟨_, rfl, kept00 (Below.refl _ _), rfl⟩
                  · have e10 : u 10 = .int .i64 (k : Int) := hd 10 (by decide)
                    rw [e10]
                    go_wp2
                    exact ⟨_, by simp only [putAll, fillL, e10] <;> rfl, kept00 (Below.refl _ _), rfl⟩
                  · exact absurd rfl hi
                  · simp at ho
                · intro u g ww hbw hR
                  have e0 : u 0 = .func (.func 115) #[] #[.pointer (some ⟨bB, 0, none⟩), .pointer (some ⟨bA, 0, none⟩), .pointer (some ⟨bT, 0, none⟩), .pointer (some ⟨bI, 0, none⟩), .pointer (some ⟨bB + 1, 0, none⟩)] := hR 0 (by decide) (by decide)
                  have e9 : OwnPr ww wr.heap.size (u 9) (prL (wid t) (L ++ [q0])) := hR 9 (by decide) (by decide)
                  have e11 : u 11 = .int .i64 ((k : Int) + 1) := hR 11 (by decide) (by decide)
                  have hcall := hrec.out (u 9) bv2 ww (by trivial) (by omega) (hW4.trans (hbw.mono (by omega))) (blk_later hbw hbB3) (blk_later hbw hbE3) (OwnD.below hown3 hbw) hbl hL1 (OwnPr.pairs e9) hLm1.out
                  rw [show (((k + 1 : Nat)) : Int) = (k : Int) + 1 from rfl] at hcall
                  have hK5 := hK3.trans (keptB hbw)
                  simp only [putAll, fillL]
                  rw [e0, e11]
                  clear e0 e11 hR z0 p0 p1
                  go_wp2_with fail
                  refine hcall.mono ?_
                  rintro e w9 ⟨⟨xr, rfl⟩, hk9, bv9, hb9, hown9⟩
                  have hK9 := hK5.trans hk9
                  clear hcall hK5 hK3 hbB3 hown3 hbE3 hW4
                  go_wp2
                  go_roundw
                  case rel => first | exact ⟨k + 1, _, bv9, by omega, by omega, by go_num, hK9, hb9, hown9, hRn, hX16⟩ | ((repeat apply Exists.intro); exact ⟨⟨k + 1, _, bv9, by omega, by omega, rfl, hK9, hb9, hown9, hRn, hX16⟩, rfl⟩)
                  case measure => simp [intOf]; omega
        · obtain rfl : k = A.length := by omega
          have hbR : b = R := by have := hRa.out; rw [List.drop_length] at this; exact this
          subst hbR
          go_wp2
          go_end0
          exact ⟨⟨_, rfl⟩, hK2, bv2, hbB2, hown2⟩
end Go.Proofs.Ytpieaeokbblflaa
