/- A game that is drawn; conditions: none. -/
import Derived.Test.YtpieaeokbblflaaDrawGm
import Derived.Deep.Cut
import Derived.Deep.CutRange
namespace Go.Proofs.Ytpieaeokbblflaa
open Go.RowKit

set_option maxRecDepth 100000 in
set_option maxHeartbeats 16000000 in
theorem c_gameOf (cg K : Nat) (x y : Int) (w : World) (h : CurR w cg K) (hK : K < 1073000000) :
    Calls Try.prog 144 #[.pointer (some ⟨cg, 0, none⟩), .int .i64 x, .int .i64 y] w fun e w' => ∃ v r, e = .returned v ∧ GameB w' w.heap.size v r ∧ KeptOff (fun k => k = cg) w w' := by
  have hg := h.lt
  obtain ⟨X, hX, hX4⟩ : ∃ X : Nat, min (max x 0) 4 = (X : Int) ∧ X ≤ 4 := ⟨(min (max x 0) 4).toNat, by omega, by omega⟩
  obtain ⟨Y, hY, hY4⟩ : ∃ Y : Nat, min (max y 0) 4 = (Y : Int) ∧ Y ≤ 4 := ⟨(min (max y 0) 4).toNat, by omega, by omega⟩
  have hN : X * Y ≤ 16 := Nat.mul_le_mul hX4 hY4
  obtain ⟨N, hNe⟩ : ∃ N, N = X * Y := ⟨_, rfl⟩
  have hm : Hid ((X : Int) * (Y : Int) = (N : Int)) := Lib.hid (by rw [hNe]; simp)
  rw [← hNe] at hN
  clear hNe
  replace hX := Lib.hid hX
  replace hY := Lib.hid hY
  go_enter Try.func144, Try.ntmps144
  have hA0 := (Below.refl w.heap.size w).alloc (Nat.le_refl _) (.cells #[.int .i64 0, .int .i64 0, .slice none 0 0, .slice none 0 0] 46)
  obtain ⟨w0, hw0⟩ : ∃ z, z = w.alloc (.cells #[.int .i64 0, .int .i64 0, .slice none 0 0, .slice none 0 0] 46) := ⟨_, rfl⟩
  have hz0 : w0.heap.size = w.heap.size + 1 := by rw [hw0]; simp
  have p0 : w0.heap[w.heap.size]? = some (.cells #[.int .i64 0, .int .i64 0, .slice none 0 0, .slice none 0 0] 46 (0, 0)) := by rw [hw0]; exact heap_alloc_at rfl
  rw [← hw0] at hA0
  have hk00 : KeptOff (fun k => k = cg) w w0 := (kept0 hA0).mono fun _ f => f.elim
  go_wp2_with fail
  rw [← hw0]
  clear hw0
  refine (c_one cg K 2 _ (h.below hA0) (by omega) (by omega)).mono ?_
  rintro e w1 ⟨sg, rfl, hc1, hk01⟩
  have hz1 := hk01.size
  clear hA0
  have hgb : ∃ gb, gb = w1.heap.size := ⟨_, rfl⟩
  obtain ⟨gb, hgb⟩ := hgb
  obtain ⟨wa, hwa⟩ : ∃ z, z = w1.alloc (.cells #[.int .i64 x, .int .i64 y, .slice none 0 0, .slice none 0 0] 46) := ⟨_, rfl⟩
  have hA1 := (Below.refl w1.heap.size w1).alloc (Nat.le_refl _) (.cells #[.int .i64 x, .int .i64 y, .slice none 0 0, .slice none 0 0] 46)
  have hG : GamX wa gb (fun _ => False) (.slice none 0 0) (.slice none 0 0) ⟨x, y, [], []⟩ := by
    rw [hwa, hgb]
    exact ⟨heap_alloc_at rfl, own_nil _ _, ownR_nil _ _ _, fun _ f => f.elim⟩
  rw [← hwa] at hA1
  have hcg : cg < gb := by omega
  have hwg : w0.heap.size ≤ gb := by omega
  have hca : CurR wa cg (K + 2) := hc1.below hA1
  have hka : KeptOff (fun k => k = cg) w0 wa := keptc hk01 (kept0 hA1) fun _ _ f => f.elim
  clear hc1 hk01 hA1
  go_wp2_with fail
  rw [← hwa, ← hgb]
  clear hwa hgb hz1
  go_loopw [9] (fun i wr => ∃ (k : Nat) (px : List Int) (rx : List (List Int)), k ≤ N ∧ i = .int .i64 k ∧ (∃ F wv rv, GamX wr gb F wv rv ⟨x, y, px, rx⟩) ∧ px.length = k ∧ rx.length = k ∧ CurR wr cg (K + 2 + 40 * k) ∧ KeptOff (fun k => k = cg) w0 wr) (fun i _ => N - (intOf i).toNat)
  case atStart => exact ⟨0, [], [], Nat.zero_le _, rfl, ⟨_, _, _, hG⟩, rfl, rfl, hca.more (by omega), hka⟩
  case round =>
    clear hG hca hka
    obtain ⟨k, px, rx, hk, rfl, ⟨F, wv, rv, hG⟩, hp, hr, hc, hkk⟩ := hrel
    have hlt := hG.lt
    have hT := hG.tight
    obtain ⟨F0, hF0⟩ : ∃ F0 : Nat → Prop, F0 = fun k => F k ∧ gb + 1 ≤ k ∧ k < wr.heap.size := ⟨_, rfl⟩
    rw [← hF0] at hT
    have hF1 : Hid (∀ k, F0 k → gb + 1 ≤ k ∧ k < wr.heap.size) := Lib.hid fun k f => by rw [hF0] at f; exact f.2
    clear hF0 hG
    by_cases hkN : k < N
    · have hd : decide ((k : Int) < (N : Int)) = true := by simp; omega
      go_wp2_with fail
      refine (c_l2Near x _).mono ?_
      rintro e _ ⟨rfl, rfl⟩
      rw [hX.out]
      go_wp2_with fail
      refine (c_l2Near y _).mono ?_
      rintro e _ ⟨rfl, rfl⟩
      rw [hY.out]
      have hm2 := hm.out
      go_wp2_with fail
      clear hm2
      obtain ⟨⟨z0, z1, z2, z3⟩, -⟩ := blk4 hT.box
      refine wp_region_cur (by kernel_rfl) [none, none, none, none, none, none, none, none, none, none, none, none, none, none, none, none, none, none, none, none, none, none, none, none, none, none, some 0, some 1, some 2, some 3, some 4, some 5, some 6, some 7] 6 (by kernel_rfl) (by kernel_rfl) (by kernel_rfl) (by simp) _ rfl cg (K + 2 + 40 * k) hc (by omega) [dkV cg (.pointer (some ⟨gb, 2, none⟩)), dkV cg (wv), dkV cg (.pointer (some ⟨cg, 0, none⟩)), dkL cg (gb + 1) (by omega) (fun xs => xs = [1, 1, 2, 0, 3]), dkN cg (fun x => x ∈ ([1, 1, 2, 0, 3] : List Int)), dkO cg (gb + 1) (by omega) ((fun _ => True))] ?_ ?_
      · intro i o ho hi u ww Kn hk hc hKn hd
        have y_z2 := kcell hk z2 (by omega)
        have hsz := hk.size
        rcases i with _ | _ | _ | _ | _ | _ | _ | _ | _ | i
        all_goals try obtain rfl := Option.some.inj ho
        all_goals try simp only [putAll, fillL, List.getElem_toArray, List.getElem_cons_succ, List.getElem_cons_zero]
        · go_wp2
          exact ⟨_, rfl, KeptOff.refl _ _, hc.more (by omega), rfl⟩
        · have e0 : u 0 = .pointer (some ⟨gb, 2, none⟩) := hd 0 (by decide)
          rw [e0]
          go_wp2
          exact ⟨_, by simp only [putAll, fillL, e0] <;> rfl, KeptOff.refl _ _, hc.more (by omega), rfl⟩
        · go_wp2
          exact ⟨_, rfl, KeptOff.refl _ _, hc.more (by omega), rfl⟩
        · go_wp2
          exact ⟨_, rfl, kalloc _, (hc.below ((Below.refl _ _).alloc (Nat.le_refl _) _)).more (by omega), ⟨[1, 1, 2, 0, 3], rfl, own_lit ww (gb + 1) [1, 1, 2, 0, 3] _ (by rfl) (by omega) (by simp)⟩⟩
        · have e2 : u 2 = .pointer (some ⟨cg, 0, none⟩) := hd 2 (by decide)
          rw [e2]
          obtain ⟨xs3, n3, o3⟩ : ∃ xs, _ ∧ OwnI ww (gb + 1) (u 3) xs := hd 3 (by decide)
          obtain ⟨p3, c3, e3, -⟩ := o3.ints.out
          try subst n3
          rw [e3] at o3
          try rw [e3]
          go_wp2_with fail
          refine (c_among cg _ _ ([1, 1, 2, 0, 3]) _ hc (by omega) o3.ints (by simp) (by simp) (by intro b off n c e; cases e; have := (OwnS.lt o3 b rfl).1; omega)).mono ?_
          rintro e wn ⟨x, rfl, hx, hcn, hkn⟩
          go_wp2
          exact ⟨_, by simp only [putAll, fillL, e2, e3] <;> rfl, hkn, hcn, ⟨_, rfl, hx⟩⟩
        · obtain ⟨x4, e4, n4⟩ : ∃ x, u 4 = .int .i64 x ∧ _ := hd 4 (by decide)
          rw [e4]
          go_wp2
          exact ⟨_, by simp only [putAll, fillL, e4] <;> rfl, kalloc _, (hc.below ((Below.refl _ _).alloc (Nat.le_refl _) _)).more (by omega), ⟨_, _, rfl, by omega, World.cell?_alloc_at _ _ _ _ rfl, trivial⟩⟩
        · omega
        · omega
        · omega
        · simp at ho
      · intro u ww hk hc2 hV
        have hsz := hk.size
        have y_z2 := kcell hk z2 (by omega)
        simp only [putAll, fillL]
        have e0 : u 0 = .pointer (some ⟨gb, 2, none⟩) := hV 0 (by decide)
        try rw [e0]
        have e1 : u 1 = wv := hV 1 (by decide)
        rw [e1]
        have e2 : u 2 = .pointer (some ⟨cg, 0, none⟩) := hV 2 (by decide)
        try rw [e2]
        obtain ⟨xs3, n3, o3⟩ : ∃ xs, _ ∧ OwnI ww (gb + 1) (u 3) xs := hV 3 (by decide)
        obtain ⟨p3, c3, e3, -⟩ := o3.ints.out
        try subst n3
        rw [e3] at o3
        try rw [e3]
        obtain ⟨x4, e4, n4⟩ : ∃ x, u 4 = .int .i64 x ∧ _ := hV 4 (by decide)
        try rw [e4]
        obtain ⟨bb5, x5, e5, l5, y5, n5⟩ : ∃ b x, u 5 = .slice (some ⟨b, 0, none⟩) 1 1 ∧ _ := hV 5 (by decide)
        rw [e5]
        clear hV
        try simp only [List.getElem_toArray, List.getElem_cons_succ, List.getElem_cons_zero]
        change wpList _ _ _ [_, _, _] _ _
        have hTw := hT.off hk (fun j e => by omega)
        have hlw := hTw.lt
        refine wp_append_intH _ rfl _ _ rfl (gb + 1) wv px rfl hTw.own x5 rfl y5 (by omega) (by omega) ?_
        intro v6 w6 h61 h62 h63
        obtain ⟨hT2, hk6⟩ := hTw.p (fun k f => by have := hF1.out k f; omega) x5 h61 h62 h63
        obtain ⟨a6, k6, rfl, -⟩ := h61.ints.out
        have hb6 := hTw.grownP h62
        clear z0 z1 z2 z3
        obtain ⟨⟨z0, z1, z2, z3⟩, f0, f1, f2, f3⟩ := blk4 hb6
        clear z0 z1 z3 f0 f1 f3
        have hc6 := hc2.off (F := fun j => gb ≤ j) hk6 (fun j e => by omega)
        have hkw := keptc (keptc hkk hk fun j _ e => e) hk6 fun j e1 e2 => by omega
        have hl6 : (px ++ [x5]).length = k + 1 := by simp [hp]
        have hz6 := hk6.size
        clear hk hk6 hc hkk hc2 y_z2 e0 e1 e2 o3 e3 e4 n4 l5 y5 n5 e5 h61 h62 h63 hb6
        rw [hl6] at hT2 hz6 hc6 hkw ⊢
        go_upto_region 6 with fail
        obtain ⟨w7, hw7⟩ : ∃ z, z = w6.setCell ⟨gb, 2, none⟩ (.slice a6 (k + 1) k6) := ⟨_, rfl⟩
        rw [← hw7] at hT2 hz6 hc6 hkw ⊢
        clear hw7 z2 f2 hTw hT
        have hl7 := hT2.lt
        have ho7 := own_lit w7 w7.heap.size [1, 0, 0, 1] #[.int .i64 1, .int .i64 0, .int .i64 0, .int .i64 1] rfl (Nat.le_refl _) (by simp)
        have hA7 := (Below.refl w7.heap.size w7).alloc (Nat.le_refl _) (.cells #[.int .i64 1, .int .i64 0, .int .i64 0, .int .i64 1] 3)
        have hlw7 : ∀ q, (Value.slice a6 (k + 1) k6).ownBlock = some q → q < w7.heap.size := fun q e => (OwnS.lt hT2.own q e).2
        obtain ⟨wb, hwb⟩ : ∃ z, z = w7.alloc (.cells #[.int .i64 1, .int .i64 0, .int .i64 0, .int .i64 1] 3) := ⟨_, rfl⟩
        rw [← hwb] at ho7 hA7
        have hTb := hT2.below hA7
        have hcb := hc6.below hA7
        have hkb := hkw.trans ((kept0 hA7).mono fun _ f => f.elim)
        have hzb := hA7.size
        cases sg
        · go_wp2_with fail
          rw [← hwb]
          clear hwb
          refine (c_pick cg _ 2 _ hcb (by omega) (by omega)).mono ?_
          rintro e wc ⟨q0, rfl, hq0, hcc, hkc⟩
          replace hkb := hkb.trans hkc
          replace hTb := hTb.off hkc (fun j e => by omega)
          replace hzb := Nat.le_trans hzb hkc.size
          clear ho7 hkc hcb
          go_wp2_with fail
          refine (c_pick cg _ 2 _ hcc (by omega) (by omega)).mono ?_
          rintro e wd ⟨q1, rfl, hq1, hcd, hkd⟩
          replace hkb := hkb.trans hkd
          replace hTb := hTb.off hkd (fun j e => by omega)
          replace hzb := Nat.le_trans hzb hkd.size
          clear hkd hcc
          go_wp2_with fail
          refine (c_pick cg _ 2 _ hcd (by omega) (by omega)).mono ?_
          rintro e we ⟨q2, rfl, hq2, hce, hke⟩
          replace hkb := hkb.trans hke
          replace hTb := hTb.off hke (fun j e => by omega)
          replace hzb := Nat.le_trans hzb hke.size
          clear hke hcd
          go_wp2_with fail
          refine (c_pick cg _ 2 _ hce (by omega) (by omega)).mono ?_
          rintro e wf ⟨q3, rfl, hq3, hcf, hkf⟩
          replace hkb := hkb.trans hkf
          replace hTb := hTb.off hkf (fun j e => by omega)
          replace hzb := Nat.le_trans hzb hkf.size
          clear hkf hce
          have hoR := own_lit wf w7.heap.size [(q0 : Int), (q1 : Int), (q2 : Int), (q3 : Int)] #[.int .i64 q0, .int .i64 q1, .int .i64 q2, .int .i64 q3] rfl (by omega) (by simp)
          have hAR := (Below.refl (wf).heap.size wf).alloc (Nat.le_refl _) (.cells #[.int .i64 q0, .int .i64 q1, .int .i64 q2, .int .i64 q3] 3)
          obtain ⟨wh, hwh⟩ : ∃ z, z = (wf).alloc (.cells #[.int .i64 q0, .int .i64 q1, .int .i64 q2, .int .i64 q3] 3) := ⟨_, rfl⟩
          rw [← hwh] at hoR hAR
          have hTh := hTb.below hAR
          have hch := CurR.below hcf hAR
          have hkh := hkb.trans ((kept0 hAR).mono fun _ f => f.elim)
          have hzh := Nat.le_trans hzb hAR.size
          go_upto_region 11 with fail
          rw [← hwh]
          clear hTb hkb hzb hAR hwh
          have hAi := (Below.refl wh.heap.size wh).alloc (Nat.le_refl _) (.cells #[(Value.slice (some ⟨(wf).heap.size, 0, none⟩) 4 4)] 31)
          have hTi := hTh.below hAi
          have hoi := OwnI.below hoR hAi
          have hki := hkh.trans ((kept0 hAi).mono fun _ f => f.elim)
          have hli := hTh.lt
          obtain ⟨⟨z0, z1, z2, z3⟩, f0, f1, f2, f3⟩ := blk4 hTh.box
          clear z0 z1 z2 f0 f1 f2 f3
          have hci := hch.below hAi
          have hRF : Hid (∀ g, ((Value.slice (some ⟨(wf).heap.size, 0, none⟩) 4 4)).ownBlock = some g → ¬ F0 g) := Lib.hid fun g e f => by have := OwnS.lt hoR g e; have := hF1.out g f; omega
          have hRL : Hid (∀ g, ((Value.slice (some ⟨(wf).heap.size, 0, none⟩) 4 4)).ownBlock = some g → w7.heap.size ≤ g) := Lib.hid fun g e => (OwnS.lt hoR g e).1
          clear hTh hkh hAi hoR hch
          go_wp2_with (at_builtin; refine wp_append_rowG _ rfl _ _ rfl (gb + 1) F0 rv rx rfl hTi.row (Value.slice (some ⟨(wf).heap.size, 0, none⟩) 4 4) [(q0 : Int), (q1 : Int), (q2 : Int), (q3 : Int)] (hoi.mono (by omega)) hRF.out rfl (World.cell?_alloc_at _ _ _ _ rfl) (by omega) (by simp; omega) ?_; intro v8 w8 h81 h82 h83; have hR8 := h81 (fun _ => True) (fun _ _ => trivial) (fun _ _ => trivial) (fun _ _ _ => trivial); obtain ⟨a8, k8, rfl, -⟩ := hR8.rows.out; have hb8 := hTi.grownR h82; obtain ⟨⟨-, -, -, z38⟩, -, -, -, f38⟩ := blk4 hb8; obtain ⟨hT8, hk8⟩ := hTi.r [(q0 : Int), (q1 : Int), (q2 : Int), (q3 : Int)] hRL.out hlw7 h81 h82; replace hT8 := Lib.hid hT8; replace hk8 := Lib.hid hk8; clear hR8 hb8 h81 h82 h83 hTi z3)
          have hl8 : (rx ++ [[(q0 : Int), (q1 : Int), (q2 : Int), (q3 : Int)]]).length = k + 1 := by simp [hr]
          rw [hl8] at hT8 hk8
          go_roundw
          case rel => exact ⟨k + 1, px ++ [x5], rx ++ [[(q0 : Int), (q1 : Int), (q2 : Int), (q3 : Int)]], by omega, by go_num, ⟨_, _, _, hT8.out⟩, hl6, hl8, (hci.off hk8.out (fun j e => by omega)).more (by omega), keptc hki hk8.out fun j e1 e2 => by omega⟩
          case measure => simp [intOf]; omega
        · go_wp2_with fail
          rw [← hwb]
          clear hwb
          refine (c_one cg _ 3 _ hcb (by omega) (by omega)).mono ?_
          rintro e wf ⟨b, rfl, hcf, hkf⟩
          have ho7 := own_off (show cg < w7.heap.size by omega) ho7 hkf
          replace hkb := hkb.trans hkf
          replace hTb := hTb.off hkf (fun j e => by omega)
          replace hzb := Nat.le_trans hzb hkf.size
          clear hkf hcb
          cases b
          case false =>
            obtain ⟨wh, hwh⟩ : ∃ z, z = wf := ⟨_, rfl⟩
            rw [← hwh] at ho7 hTb hcf hkb hzb
            have hoR : OwnI wh w7.heap.size (.slice (some ⟨w7.heap.size, 0, none⟩) 4 4) [1, 0, 0, 1] := ho7
            have hTh := hTb
            have hch := hcf
            have hkh := hkb
            have hzh := hzb
            go_upto_region 11 with fail
            rw [← hwh]
            clear hTb hkb hzb ho7 hwh
            have hAi := (Below.refl wh.heap.size wh).alloc (Nat.le_refl _) (.cells #[(Value.slice (some ⟨w7.heap.size, 0, none⟩) 4 4)] 31)
            have hTi := hTh.below hAi
            have hoi := OwnI.below hoR hAi
            have hki := hkh.trans ((kept0 hAi).mono fun _ f => f.elim)
            have hli := hTh.lt
            obtain ⟨⟨z0, z1, z2, z3⟩, f0, f1, f2, f3⟩ := blk4 hTh.box
            clear z0 z1 z2 f0 f1 f2 f3
            have hci := hch.below hAi
            have hRF : Hid (∀ g, ((Value.slice (some ⟨w7.heap.size, 0, none⟩) 4 4)).ownBlock = some g → ¬ F0 g) := Lib.hid fun g e f => by have := OwnS.lt hoR g e; have := hF1.out g f; omega
            have hRL : Hid (∀ g, ((Value.slice (some ⟨w7.heap.size, 0, none⟩) 4 4)).ownBlock = some g → w7.heap.size ≤ g) := Lib.hid fun g e => (OwnS.lt hoR g e).1
            clear hTh hkh hAi hoR hch
            go_wp2_with (at_builtin; refine wp_append_rowG _ rfl _ _ rfl (gb + 1) F0 rv rx rfl hTi.row (Value.slice (some ⟨w7.heap.size, 0, none⟩) 4 4) [1, 0, 0, 1] (hoi.mono (by omega)) hRF.out rfl (World.cell?_alloc_at _ _ _ _ rfl) (by omega) (by simp; omega) ?_; intro v8 w8 h81 h82 h83; have hR8 := h81 (fun _ => True) (fun _ _ => trivial) (fun _ _ => trivial) (fun _ _ _ => trivial); obtain ⟨a8, k8, rfl, -⟩ := hR8.rows.out; have hb8 := hTi.grownR h82; obtain ⟨⟨-, -, -, z38⟩, -, -, -, f38⟩ := blk4 hb8; obtain ⟨hT8, hk8⟩ := hTi.r [1, 0, 0, 1] hRL.out hlw7 h81 h82; replace hT8 := Lib.hid hT8; replace hk8 := Lib.hid hk8; clear hR8 hb8 h81 h82 h83 hTi z3)
            have hl8 : (rx ++ [[1, 0, 0, 1]]).length = k + 1 := by simp [hr]
            rw [hl8] at hT8 hk8
            go_roundw
            case rel => exact ⟨k + 1, px ++ [x5], rx ++ [[1, 0, 0, 1]], by omega, by go_num, ⟨_, _, _, hT8.out⟩, hl6, hl8, (hci.off hk8.out (fun j e => by omega)).more (by omega), keptc hki hk8.out fun j e1 e2 => by omega⟩
            case measure => simp [intOf]; omega
          case true =>
            have hoR := own_lit wf w7.heap.size [(0 : Int), (1 : Int), (1 : Int), (0 : Int)] #[.int .i64 0, .int .i64 1, .int .i64 1, .int .i64 0] rfl (by omega) (by simp)
            have hAR := (Below.refl (wf).heap.size wf).alloc (Nat.le_refl _) (.cells #[.int .i64 0, .int .i64 1, .int .i64 1, .int .i64 0] 3)
            obtain ⟨wh, hwh⟩ : ∃ z, z = (wf).alloc (.cells #[.int .i64 0, .int .i64 1, .int .i64 1, .int .i64 0] 3) := ⟨_, rfl⟩
            rw [← hwh] at hoR hAR
            have hTh := hTb.below hAR
            have hch := CurR.below hcf hAR
            have hkh := hkb.trans ((kept0 hAR).mono fun _ f => f.elim)
            have hzh := Nat.le_trans hzb hAR.size
            go_upto_region 11 with fail
            rw [← hwh]
            clear hTb hkb hzb hAR hwh
            have hAi := (Below.refl wh.heap.size wh).alloc (Nat.le_refl _) (.cells #[(Value.slice (some ⟨(wf).heap.size, 0, none⟩) 4 4)] 31)
            have hTi := hTh.below hAi
            have hoi := OwnI.below hoR hAi
            have hki := hkh.trans ((kept0 hAi).mono fun _ f => f.elim)
            have hli := hTh.lt
            obtain ⟨⟨z0, z1, z2, z3⟩, f0, f1, f2, f3⟩ := blk4 hTh.box
            clear z0 z1 z2 f0 f1 f2 f3
            have hci := hch.below hAi
            have hRF : Hid (∀ g, ((Value.slice (some ⟨(wf).heap.size, 0, none⟩) 4 4)).ownBlock = some g → ¬ F0 g) := Lib.hid fun g e f => by have := OwnS.lt hoR g e; have := hF1.out g f; omega
            have hRL : Hid (∀ g, ((Value.slice (some ⟨(wf).heap.size, 0, none⟩) 4 4)).ownBlock = some g → w7.heap.size ≤ g) := Lib.hid fun g e => (OwnS.lt hoR g e).1
            clear hTh hkh hAi hoR hch
            go_wp2_with (at_builtin; refine wp_append_rowG _ rfl _ _ rfl (gb + 1) F0 rv rx rfl hTi.row (Value.slice (some ⟨(wf).heap.size, 0, none⟩) 4 4) [(0 : Int), (1 : Int), (1 : Int), (0 : Int)] (hoi.mono (by omega)) hRF.out rfl (World.cell?_alloc_at _ _ _ _ rfl) (by omega) (by simp; omega) ?_; intro v8 w8 h81 h82 h83; have hR8 := h81 (fun _ => True) (fun _ _ => trivial) (fun _ _ => trivial) (fun _ _ _ => trivial); obtain ⟨a8, k8, rfl, -⟩ := hR8.rows.out; have hb8 := hTi.grownR h82; obtain ⟨⟨-, -, -, z38⟩, -, -, -, f38⟩ := blk4 hb8; obtain ⟨hT8, hk8⟩ := hTi.r [(0 : Int), (1 : Int), (1 : Int), (0 : Int)] hRL.out hlw7 h81 h82; replace hT8 := Lib.hid hT8; replace hk8 := Lib.hid hk8; clear hR8 hb8 h81 h82 h83 hTi z3)
            have hl8 : (rx ++ [[(0 : Int), (1 : Int), (1 : Int), (0 : Int)]]).length = k + 1 := by simp [hr]
            rw [hl8] at hT8 hk8
            go_roundw
            case rel => exact ⟨k + 1, px ++ [x5], rx ++ [[(0 : Int), (1 : Int), (1 : Int), (0 : Int)]], by omega, by go_num, ⟨_, _, _, hT8.out⟩, hl6, hl8, (hci.off hk8.out (fun j e => by omega)).more (by omega), keptc hki hk8.out fun j e1 e2 => by omega⟩
            case measure => simp [intOf]; omega
    · obtain rfl : k = N := by omega
      have hd : decide ((k : Int) < (k : Int)) = false := by simp
      go_wp2_with fail
      refine (c_l2Near x _).mono ?_
      rintro e _ ⟨rfl, rfl⟩
      rw [hX.out]
      go_wp2_with fail
      refine (c_l2Near y _).mono ?_
      rintro e _ ⟨rfl, rfl⟩
      rw [hY.out]
      have hm2 := hm.out
      go_upto_region 12 with fail
      clear hm2 hm hX hY
      by_cases hk0 : k = 0
      · have hd0 : decide ((k : Int) > 0) = false := by simp; omega
        subst hk0
        obtain ⟨a6, k6, b6, m6, rfl, rfl⟩ := hT.rd.form
        rw [show (GameD.mk x y px rx).p.length = 0 from hp, show (GameD.mk x y px rx).r.length = 0 from hr] at hT
        obtain ⟨⟨z0, z1, z2, z3⟩, -⟩ := blk4 hT.box
        have hTR := hT.rd
        clear hd hT
        have pz := (hkk.block _ (by omega) (by omega)).trans p0
        have hwz := (Array.getElem?_eq_some_iff.1 pz).1
        obtain ⟨⟨c0, c1, c2, c3⟩, g0, g1, g2, g3⟩ := blk4 pz
        obtain ⟨⟨⟨q0, q1⟩, q2, q3⟩, hk4⟩ := stored4 pz (.int .i64 x) (.int .i64 y) (.slice a6 0 k6) (.slice b6 0 m6)
        replace q0 := Lib.hid q0
        replace q1 := Lib.hid q1
        replace q2 := Lib.hid q2
        replace q3 := Lib.hid q3
        have hfin := Lib.hid (And.intro ((hTR.off hk4 fun k e => by omega).gameB (lo := w.heap.size) (by omega)) (keptc (hk00.trans hkk) hk4 fun k e1 e2 => by omega))
        clear pz
        replace hwz := Lib.hid hwz
        go_wp2_with fail
        refine bodyPost_ret (v := .agg #[.int .i64 x, .int .i64 y, .slice a6 0 k6, .slice b6 0 m6]) (by simp [results, Try.results144, go_sem, q0.out, q1.out, q2.out, q3.out]) rfl (by first | exact ⟨_, _, rfl, hfin.out.1, hfin.out.2⟩ | exact ⟨_, rfl, ⟨_, hfin.out.1⟩, hfin.out.2⟩)
      have hd0 : decide ((k : Int) > 0) = true := by simp; omega
      have hd1 : decide (0 < k) = true := by simp; omega
      have hk0' : 0 < k := by omega
      obtain ⟨g6, k6, rfl, hg6⟩ := hT.own.form (by simp; omega)
      obtain ⟨g7, m6, rfl, hg7⟩ := hT.row.form (by simp; omega)
      rw [show (GameD.mk x y px rx).p.length = k from hp, show (GameD.mk x y px rx).r.length = k from hr] at hT
      obtain ⟨⟨z0, z1, z2, z3⟩, f0, f1, f2, f3⟩ := blk4 hT.box
      clear z0 z1 z3 f0 f1 f2 f3
      go_wp2_with fail
      clear z2
      refine (c_pick cg _ 50 _ hc (by omega) (by omega)).mono ?_
      rintro e w1 ⟨q, rfl, hq, hc1, hk1⟩
      replace hkk := hkk.trans hk1
      replace hT := hT.off hk1 (fun j e => by omega)
      have hF2 : Hid (∀ k, F0 k → gb + 1 ≤ k ∧ k < w1.heap.size) := Lib.hid fun k f => by have := hF1.out k f; have := hk1.size; omega
      clear hc hk1 hF1 hd
      have hlt1 := hT.lt
      by_cases hq0 : q = 0
      · subst hq0
        obtain ⟨⟨-, -, z2, -⟩, -⟩ := blk4 hT.box
        go_upto_region 16 with fail
        refine wp_region_cur (by kernel_rfl) [none, none, none, none, none, none, none, none, none, none, none, none, none, none, none, none, none, none, none, none, none, none, none, none, none, none, none, none, none, none, none, none, none, none, none, none, none, none, none, none, none, none, none, none, none, none, none, none, none, none, none, none, none, none, none, none, none, none, none, none, none, none, none, none, none, none, none, some 0, some 1, some 2, some 3, some 4, some 5, some 6, some 7, some 8] 8 (by kernel_rfl) (by kernel_rfl) (by kernel_rfl) (by simp) _ rfl cg (K + 2 + 40 * k + 2) hc1 (by omega) [dkV cg (.pointer (some ⟨gb, 2, none⟩)), dkV cg (.slice (some ⟨g6, 0, none⟩) k k6), dkV cg (.pointer (some ⟨cg, 0, none⟩)), dkV cg (.int .i64 (k : Int)), dkN cg (fun x => 0 ≤ x ∧ x < (k : Int)), dkV cg (.pointer (some ⟨cg, 0, none⟩)), dkL cg (gb + 1) (by omega) (fun xs => xs = [99, 100, -1]), dkN cg (fun x => x ∈ ([99, 100, -1] : List Int))] ?_ ?_
        · intro i o ho hi u ww Kn hk hc hKn hd
          have y_z2 := kcell hk z2 (by omega)
          have hsz := hk.size
          rcases i with _ | _ | _ | _ | _ | _ | _ | _ | _ | _ | i
          all_goals try obtain rfl := Option.some.inj ho
          all_goals try simp only [putAll, fillL, List.getElem_toArray, List.getElem_cons_succ, List.getElem_cons_zero]
          · go_wp2
            exact ⟨_, rfl, KeptOff.refl _ _, hc.more (by omega), rfl⟩
          · have e0 : u 0 = .pointer (some ⟨gb, 2, none⟩) := hd 0 (by decide)
            rw [e0]
            go_wp2
            exact ⟨_, by simp only [putAll, fillL, e0] <;> rfl, KeptOff.refl _ _, hc.more (by omega), rfl⟩
          · go_wp2
            exact ⟨_, rfl, KeptOff.refl _ _, hc.more (by omega), rfl⟩
          · go_wp2
            exact ⟨_, rfl, KeptOff.refl _ _, hc.more (by omega), rfl⟩
          · have e2 : u 2 = .pointer (some ⟨cg, 0, none⟩) := hd 2 (by decide)
            rw [e2]
            have e3 : u 3 = .int .i64 (k : Int) := hd 3 (by decide)
            rw [e3]
            go_wp2_with fail
            refine (c_pick cg _ _ _ hc (by omega) (by omega)).mono ?_
            rintro e wn ⟨x, rfl, hx, hcn, hkn⟩
            go_wp2
            exact ⟨_, by simp only [putAll, fillL, e2, e3] <;> rfl, hkn, hcn, ⟨_, rfl, by omega, by omega⟩⟩
          · go_wp2
            exact ⟨_, rfl, KeptOff.refl _ _, hc.more (by omega), rfl⟩
          · go_wp2
            exact ⟨_, rfl, kalloc _, (hc.below ((Below.refl _ _).alloc (Nat.le_refl _) _)).more (by omega), ⟨[99, 100, -1], rfl, own_lit ww (gb + 1) [99, 100, -1] _ (by rfl) (by omega) (by simp)⟩⟩
          · have e5 : u 5 = .pointer (some ⟨cg, 0, none⟩) := hd 5 (by decide)
            rw [e5]
            obtain ⟨xs6, n6, o6⟩ : ∃ xs, _ ∧ OwnI ww (gb + 1) (u 6) xs := hd 6 (by decide)
            obtain ⟨p6, c6, e6, -⟩ := o6.ints.out
            try subst n6
            rw [e6] at o6
            try rw [e6]
            go_wp2_with fail
            refine (c_among cg _ _ ([99, 100, -1]) _ hc (by omega) o6.ints (by simp) (by simp) (by intro b off n c e; cases e; have := (OwnS.lt o6 b rfl).1; omega)).mono ?_
            rintro e wn ⟨x, rfl, hx, hcn, hkn⟩
            go_wp2
            exact ⟨_, by simp only [putAll, fillL, e5, e6] <;> rfl, hkn, hcn, ⟨_, rfl, hx⟩⟩
          · omega
          · omega
          · simp at ho
        · intro u ww hk hc2 hV
          have hsz := hk.size
          have y_z2 := kcell hk z2 (by omega)
          simp only [putAll, fillL]
          have e0 : u 0 = .pointer (some ⟨gb, 2, none⟩) := hV 0 (by decide)
          try rw [e0]
          have e1 : u 1 = .slice (some ⟨g6, 0, none⟩) k k6 := hV 1 (by decide)
          rw [e1]
          have e2 : u 2 = .pointer (some ⟨cg, 0, none⟩) := hV 2 (by decide)
          try rw [e2]
          have e3 : u 3 = .int .i64 (k : Int) := hV 3 (by decide)
          try rw [e3]
          obtain ⟨x4, e4, n4⟩ : ∃ x, u 4 = .int .i64 x ∧ _ := hV 4 (by decide)
          rw [e4]
          have e5 : u 5 = .pointer (some ⟨cg, 0, none⟩) := hV 5 (by decide)
          try rw [e5]
          obtain ⟨xs6, n6, o6⟩ : ∃ xs, _ ∧ OwnI ww (gb + 1) (u 6) xs := hV 6 (by decide)
          obtain ⟨p6, c6, e6, -⟩ := o6.ints.out
          try subst n6
          rw [e6] at o6
          try rw [e6]
          obtain ⟨x7, e7, n7⟩ : ∃ x, u 7 = .int .i64 x ∧ _ := hV 7 (by decide)
          rw [e7]
          clear hV
          try simp only [List.getElem_toArray, List.getElem_cons_succ, List.getElem_cons_zero]
          change wpList _ _ _ [_, _] _ _
          have hTw := hT.off hk (fun j e => by omega)
          obtain ⟨j, rfl⟩ := Int.eq_ofNat_of_zero_le n4.1
          obtain ⟨cj, fj⟩ := OwnI.cell hTw.own j (by simp; omega)
          obtain ⟨hT3, hk3⟩ := hTw.setP j x7
          have hkz := keptc (keptc hkk hk fun j _ e => e) hk3 fun j e1 e2 => by omega
          go_upto_region 23 with fail
          obtain ⟨w9, hw9⟩ : ∃ z, z = ww.setCell ⟨g6, j, none⟩ (.int .i64 x7) := ⟨_, rfl⟩
          rw [← hw9] at hT3 hkz ⊢
          have hTR := hT3.rd
          clear hw9 hT3 hk3 cj fj hTw hk hc2 e0 e1 e2 e3 e4 e5 e6 e7 z2 y_z2 hkk hc1 hT
          obtain ⟨⟨z0, z1, z2, z3⟩, -⟩ := blk4 hTR.box
          have pz := (hkz.block _ (by omega) (by omega)).trans p0
          have hwz := (Array.getElem?_eq_some_iff.1 pz).1
          obtain ⟨⟨c0, c1, c2, c3⟩, g0, g1, g2, g3⟩ := blk4 pz
          obtain ⟨⟨⟨q0, q1⟩, q2, q3⟩, hk4⟩ := stored4 pz (.int .i64 x) (.int .i64 y) (.slice (some ⟨g6, 0, none⟩) k k6) (.slice (some ⟨g7, 0, none⟩) k m6)
          replace q0 := Lib.hid q0
          replace q1 := Lib.hid q1
          replace q2 := Lib.hid q2
          replace q3 := Lib.hid q3
          have hfin := Lib.hid (And.intro ((hTR.off hk4 fun k e => by omega).gameB (lo := w.heap.size) (by omega)) (keptc (hk00.trans hkz) hk4 fun k e1 e2 => by omega))
          clear pz
          replace hwz := Lib.hid hwz
          go_wp2_with fail
          refine bodyPost_ret (v := .agg #[.int .i64 x, .int .i64 y, .slice (some ⟨g6, 0, none⟩) k k6, .slice (some ⟨g7, 0, none⟩) k m6]) (by simp [results, Try.results144, go_sem, q0.out, q1.out, q2.out, q3.out]) rfl (by first | exact ⟨_, _, rfl, hfin.out.1, hfin.out.2⟩ | exact ⟨_, rfl, ⟨_, hfin.out.1⟩, hfin.out.2⟩)
      have hq0' : ((q : Int) == 0) = false := by simp; omega
      by_cases hq1 : q = 1
      · subst hq1
        obtain ⟨⟨-, -, -, z3⟩, -⟩ := blk4 hT.box
        go_upto_region 18 with fail
        refine wp_region_cur (by kernel_rfl) [none, none, none, none, none, none, none, none, none, none, none, none, none, none, none, none, none, none, none, none, none, none, none, none, none, none, none, none, none, none, none, none, none, none, none, none, none, none, none, none, none, none, none, none, none, none, none, none, none, none, none, none, none, none, none, none, none, none, none, none, none, none, none, none, none, none, none, none, none, none, none, none, none, none, none, none, none, none, some 0, some 1, some 2, some 3, some 4, some 5, some 6, some 7, some 8, some 9, some 10, some 11, some 12, some 13, some 14, some 15, some 16] 16 (by kernel_rfl) (by kernel_rfl) (by kernel_rfl) (by simp) _ rfl cg (K + 2 + 40 * k + 2) hc1 (by omega) [dkV cg (.pointer (some ⟨gb, 3, none⟩)), dkV cg (.slice (some ⟨g7, 0, none⟩) k m6), dkV cg (.pointer (some ⟨cg, 0, none⟩)), dkV cg (.int .i64 (k : Int)), dkN cg (fun x => 0 ≤ x ∧ x < (k : Int)), dkV cg (.pointer (some ⟨cg, 0, none⟩)), dkL cg (gb + 1) (by omega) (fun xs => xs = [0, 2]), dkN cg (fun x => x ∈ ([0, 2] : List Int)), dkV cg (.pointer (some ⟨cg, 0, none⟩)), dkL cg (gb + 1) (by omega) (fun xs => xs = [0, 1]), dkN cg (fun x => x ∈ ([0, 1] : List Int)), dkI cg (w1.heap.size) (by omega) (fun xs => xs.length = 4), dkV cg (.pointer (some ⟨cg, 0, none⟩)), dkN cg (fun x => 0 ≤ x ∧ x < 2), dkN cg (fun x => 3 ≤ x ∧ x ≤ 4), dkI cg (w1.heap.size) (by omega) (fun xs => True)] ?_ ?_
        · intro i o ho hi u ww Kn hk hc hKn hd
          have y_z3 := kcell hk z3 (by omega)
          have hsz := hk.size
          rcases i with _ | _ | _ | _ | _ | _ | _ | _ | _ | _ | _ | _ | _ | _ | _ | _ | _ | _ | i
          all_goals try obtain rfl := Option.some.inj ho
          all_goals try simp only [putAll, fillL, List.getElem_toArray, List.getElem_cons_succ, List.getElem_cons_zero]
          · go_wp2
            exact ⟨_, rfl, KeptOff.refl _ _, hc.more (by omega), rfl⟩
          · have e0 : u 0 = .pointer (some ⟨gb, 3, none⟩) := hd 0 (by decide)
            rw [e0]
            go_wp2
            exact ⟨_, by simp only [putAll, fillL, e0] <;> rfl, KeptOff.refl _ _, hc.more (by omega), rfl⟩
          · go_wp2
            exact ⟨_, rfl, KeptOff.refl _ _, hc.more (by omega), rfl⟩
          · go_wp2
            exact ⟨_, rfl, KeptOff.refl _ _, hc.more (by omega), rfl⟩
          · have e2 : u 2 = .pointer (some ⟨cg, 0, none⟩) := hd 2 (by decide)
            rw [e2]
            have e3 : u 3 = .int .i64 (k : Int) := hd 3 (by decide)
            rw [e3]
            go_wp2_with fail
            refine (c_pick cg _ _ _ hc (by omega) (by omega)).mono ?_
            rintro e wn ⟨x, rfl, hx, hcn, hkn⟩
            go_wp2
            exact ⟨_, by simp only [putAll, fillL, e2, e3] <;> rfl, hkn, hcn, ⟨_, rfl, by omega, by omega⟩⟩
          · go_wp2
            exact ⟨_, rfl, KeptOff.refl _ _, hc.more (by omega), rfl⟩
          · go_wp2
            exact ⟨_, rfl, kalloc _, (hc.below ((Below.refl _ _).alloc (Nat.le_refl _) _)).more (by omega), ⟨[0, 2], rfl, own_lit ww (gb + 1) [0, 2] _ (by rfl) (by omega) (by simp)⟩⟩
          · have e5 : u 5 = .pointer (some ⟨cg, 0, none⟩) := hd 5 (by decide)
            rw [e5]
            obtain ⟨xs6, n6, o6⟩ : ∃ xs, _ ∧ OwnI ww (gb + 1) (u 6) xs := hd 6 (by decide)
            obtain ⟨p6, c6, e6, -⟩ := o6.ints.out
            try subst n6
            rw [e6] at o6
            try rw [e6]
            go_wp2_with fail
            refine (c_among cg _ _ ([0, 2]) _ hc (by omega) o6.ints (by simp) (by simp) (by intro b off n c e; cases e; have := (OwnS.lt o6 b rfl).1; omega)).mono ?_
            rintro e wn ⟨x, rfl, hx, hcn, hkn⟩
            go_wp2
            exact ⟨_, by simp only [putAll, fillL, e5, e6] <;> rfl, hkn, hcn, ⟨_, rfl, hx⟩⟩
          · go_wp2
            exact ⟨_, rfl, KeptOff.refl _ _, hc.more (by omega), rfl⟩
          · go_wp2
            exact ⟨_, rfl, kalloc _, (hc.below ((Below.refl _ _).alloc (Nat.le_refl _) _)).more (by omega), ⟨[0, 1], rfl, own_lit ww (gb + 1) [0, 1] _ (by rfl) (by omega) (by simp)⟩⟩
          · have e8 : u 8 = .pointer (some ⟨cg, 0, none⟩) := hd 8 (by decide)
            rw [e8]
            obtain ⟨xs9, n9, o9⟩ : ∃ xs, _ ∧ OwnI ww (gb + 1) (u 9) xs := hd 9 (by decide)
            obtain ⟨p9, c9, e9, -⟩ := o9.ints.out
            try subst n9
            rw [e9] at o9
            try rw [e9]
            go_wp2_with fail
            refine (c_among cg _ _ ([0, 1]) _ hc (by omega) o9.ints (by simp) (by simp) (by intro b off n c e; cases e; have := (OwnS.lt o9 b rfl).1; omega)).mono ?_
            rintro e wn ⟨x, rfl, hx, hcn, hkn⟩
            go_wp2
            exact ⟨_, by simp only [putAll, fillL, e8, e9] <;> rfl, hkn, hcn, ⟨_, rfl, hx⟩⟩
          · obtain ⟨x7, e7, n7⟩ : ∃ x, u 7 = .int .i64 x ∧ _ := hd 7 (by decide)
            rw [e7]
            obtain ⟨x10, e10, n10⟩ : ∃ x, u 10 = .int .i64 x ∧ _ := hd 10 (by decide)
            rw [e10]
            go_wp2
            exact ⟨_, by simp only [putAll, fillL, e7, e10] <;> rfl, kalloc _, (hc.below ((Below.refl _ _).alloc (Nat.le_refl _) _)).more (by omega), ⟨[0, 1, x7, x10], rfl, (own_lit ww w1.heap.size [0, 1, x7, x10] _ rfl (by omega) (by simp)).b⟩⟩
          · go_wp2
            exact ⟨_, rfl, KeptOff.refl _ _, hc.more (by omega), rfl⟩
          · have e12 : u 12 = .pointer (some ⟨cg, 0, none⟩) := hd 12 (by decide)
            rw [e12]
            go_wp2_with fail
            refine (c_pick cg _ _ _ hc (by omega) (by omega)).mono ?_
            rintro e wn ⟨x, rfl, hx, hcn, hkn⟩
            go_wp2
            exact ⟨_, by simp only [putAll, fillL, e12] <;> rfl, hkn, hcn, ⟨_, rfl, by omega, by omega⟩⟩
          · obtain ⟨x13, e13, n13⟩ : ∃ x, u 13 = .int .i64 x ∧ _ := hd 13 (by decide)
            rw [e13]
            have b13 : 0 ≤ x13 ∧ x13 < 2 := n13
            go_wp2
            exact ⟨_, by simp only [putAll, fillL, e13] <;> rfl, KeptOff.refl _ _, hc.more (by omega), ⟨_, rfl, by omega, by omega⟩⟩
          · obtain ⟨xs11, n11, i11⟩ : ∃ xs, _ ∧ IntsB ww _ (u 11) xs := hd 11 (by decide)
            obtain ⟨p11, c11, e11, -⟩ := i11.1.out
            rw [e11] at i11
            try rw [e11]
            obtain ⟨x14, e14, n14⟩ : ∃ x, u 14 = .int .i64 x ∧ _ := hd 14 (by decide)
            rw [e14]
            have l11 : xs11.length = 4 := n11
            have n14' : 3 ≤ x14 ∧ x14 ≤ 4 := n14
            obtain ⟨bb, oo, rfl, -, -⟩ := i11.1.at 0 (by omega)
            have hcap := i11.1.cap
            rw [l11] at i11 hcap e11 ⊢
            have h3 := intsB_take i11 3 (by omega)
            have h4 := intsB_take i11 4 (by omega)
            clear n11 n14
            rcases (by omega : x14 = 3 ∨ x14 = 4) with rfl | rfl
            · go_wp2; exact ⟨_, by simp only [putAll, fillL, e11, e14] <;> rfl, KeptOff.refl _ _, hc.more (by omega), ⟨xs11.take 3, trivial, h3⟩⟩
            · go_wp2; exact ⟨_, by simp only [putAll, fillL, e11, e14] <;> rfl, KeptOff.refl _ _, hc.more (by omega), ⟨xs11.take 4, trivial, h4⟩⟩
          · omega
          · omega
          · simp at ho
        · intro u ww hk hc2 hV
          have hsz := hk.size
          have y_z3 := kcell hk z3 (by omega)
          simp only [putAll, fillL]
          have e0 : u 0 = .pointer (some ⟨gb, 3, none⟩) := hV 0 (by decide)
          try rw [e0]
          have e1 : u 1 = .slice (some ⟨g7, 0, none⟩) k m6 := hV 1 (by decide)
          rw [e1]
          have e2 : u 2 = .pointer (some ⟨cg, 0, none⟩) := hV 2 (by decide)
          try rw [e2]
          have e3 : u 3 = .int .i64 (k : Int) := hV 3 (by decide)
          try rw [e3]
          obtain ⟨x4, e4, n4⟩ : ∃ x, u 4 = .int .i64 x ∧ _ := hV 4 (by decide)
          rw [e4]
          have e5 : u 5 = .pointer (some ⟨cg, 0, none⟩) := hV 5 (by decide)
          try rw [e5]
          obtain ⟨xs6, n6, o6⟩ : ∃ xs, _ ∧ OwnI ww (gb + 1) (u 6) xs := hV 6 (by decide)
          obtain ⟨p6, c6, e6, -⟩ := o6.ints.out
          try subst n6
          rw [e6] at o6
          try rw [e6]
          obtain ⟨x7, e7, n7⟩ : ∃ x, u 7 = .int .i64 x ∧ _ := hV 7 (by decide)
          try rw [e7]
          have e8 : u 8 = .pointer (some ⟨cg, 0, none⟩) := hV 8 (by decide)
          try rw [e8]
          obtain ⟨xs9, n9, o9⟩ : ∃ xs, _ ∧ OwnI ww (gb + 1) (u 9) xs := hV 9 (by decide)
          obtain ⟨p9, c9, e9, -⟩ := o9.ints.out
          try subst n9
          rw [e9] at o9
          try rw [e9]
          obtain ⟨x10, e10, n10⟩ : ∃ x, u 10 = .int .i64 x ∧ _ := hV 10 (by decide)
          try rw [e10]
          obtain ⟨xs11, n11, i11⟩ : ∃ xs, _ ∧ IntsB ww _ (u 11) xs := hV 11 (by decide)
          obtain ⟨p11, c11, e11, -⟩ := i11.1.out
          rw [e11] at i11
          try rw [e11]
          have e12 : u 12 = .pointer (some ⟨cg, 0, none⟩) := hV 12 (by decide)
          try rw [e12]
          obtain ⟨x13, e13, n13⟩ : ∃ x, u 13 = .int .i64 x ∧ _ := hV 13 (by decide)
          try rw [e13]
          obtain ⟨x14, e14, n14⟩ : ∃ x, u 14 = .int .i64 x ∧ _ := hV 14 (by decide)
          try rw [e14]
          obtain ⟨xs15, n15, i15⟩ : ∃ xs, _ ∧ IntsB ww _ (u 15) xs := hV 15 (by decide)
          obtain ⟨p15, c15, e15, -⟩ := i15.1.out
          rw [e15] at i15
          try rw [e15]
          clear hV
          try simp only [List.getElem_toArray, List.getElem_cons_succ, List.getElem_cons_zero]
          change wpList _ _ _ [_, _] _ _
          have hTw := hT.off hk (fun j e => by omega)
          obtain ⟨j, rfl⟩ := Int.eq_ofNat_of_zero_le n4.1
          obtain ⟨vs7, ho7, -⟩ := hT.row.outer
          have hg7l := (ho7.lt g7 rfl).2
          obtain ⟨u0, cj, fj⟩ := OwnR.cellAt hTw.row j (by simp; omega)
          have i15' : IntsB ww (gb + 1) (.slice p15 xs15.length c15) xs15 := ⟨i15.1, fun g e => by have := i15.2 g e; omega⟩
          obtain ⟨hT3, hk3⟩ := hTw.setRow j (.slice p15 xs15.length c15) xs15 i15' (fun q e f => by have := i15.2 q e; omega)
          have hkz := keptc (keptc hkk hk fun j _ e => e) hk3 fun j e1 e2 => by omega
          obtain ⟨n15', hn15⟩ : ∃ z, z = xs15.length := ⟨_, rfl⟩
          rw [← hn15] at hT3 hkz ⊢
          replace hn15 := Lib.hid hn15
          go_upto_region 23 with fail
          obtain ⟨w9, hw9⟩ : ∃ z, z = ww.setCell ⟨g7, j, none⟩ (.slice p15 n15' c15) := ⟨_, rfl⟩
          rw [← hw9] at hT3 hkz ⊢
          have hTR := hT3
          clear hw9 hT3 hk3 cj fj hTw hk hc2 e0 e1 e2 e3 e4 e5 e6 e7 e8 e9 e10 e11 e12 e13 e14 e15 z3 y_z3 hkk hc1 hT i15 i15' i11
          obtain ⟨⟨z0, z1, z2, z3⟩, -⟩ := blk4 hTR.box
          have pz := (hkz.block _ (by omega) (by omega)).trans p0
          have hwz := (Array.getElem?_eq_some_iff.1 pz).1
          obtain ⟨⟨c0, c1, c2, c3⟩, g0, g1, g2, g3⟩ := blk4 pz
          obtain ⟨⟨⟨q0, q1⟩, q2, q3⟩, hk4⟩ := stored4 pz (.int .i64 x) (.int .i64 y) (.slice (some ⟨g6, 0, none⟩) k k6) (.slice (some ⟨g7, 0, none⟩) k m6)
          replace q0 := Lib.hid q0
          replace q1 := Lib.hid q1
          replace q2 := Lib.hid q2
          replace q3 := Lib.hid q3
          have hfin := Lib.hid (And.intro ((hTR.off hk4 fun k e => by omega).gameB (lo := w.heap.size) (by omega)) (keptc (hk00.trans hkz) hk4 fun k e1 e2 => by omega))
          clear pz
          replace hwz := Lib.hid hwz
          go_wp2_with fail
          refine bodyPost_ret (v := .agg #[.int .i64 x, .int .i64 y, .slice (some ⟨g6, 0, none⟩) k k6, .slice (some ⟨g7, 0, none⟩) k m6]) (by simp [results, Try.results144, go_sem, q0.out, q1.out, q2.out, q3.out]) rfl (by first | exact ⟨_, _, rfl, hfin.out.1, hfin.out.2⟩ | exact ⟨_, rfl, ⟨_, hfin.out.1⟩, hfin.out.2⟩)
      have hq1' : ((q : Int) == 1) = false := by simp; omega
      by_cases hq2 : q = 2
      · subst hq2
        go_upto_region 20 with fail
        go_upto_region 23 with (at_make; refine wp_make_int _ rfl _ _ rfl k rfl rfl (by omega) ?_; intro w5 h51 h52 h53; have hT5 := hT.below h52; obtain ⟨⟨-, -, z2, -⟩, -, -, f2, -⟩ := blk4 hT5.box; have hTR := Lib.hid (GamR.setP hT5.rd (ps := List.replicate k 0) ⟨h51.ints, fun g e => by have := OwnS.lt h51 g e; omega⟩); have hkz := Lib.hid (keptc (keptc hkk (kept0 h52) fun j _ e => e.elim) (keptOff_set w5 gb 2 (.slice (some ⟨w1.heap.size, 0, none⟩) k k)) (fun j e1 e2 => by omega)); clear h51 h52 h53 hT5)
        obtain ⟨w9, hw9⟩ : ∃ z, z = w5.setCell ⟨gb, 2, none⟩ (.slice (some ⟨w1.heap.size, 0, none⟩) k k) := ⟨_, rfl⟩
        rw [← hw9] at hTR hkz ⊢
        clear hw9 hT hkk hc1 z2 f2
        replace hTR := hTR.out
        replace hkz := hkz.out
        obtain ⟨⟨z0, z1, z2, z3⟩, -⟩ := blk4 hTR.box
        have pz := (hkz.block _ (by omega) (by omega)).trans p0
        have hwz := (Array.getElem?_eq_some_iff.1 pz).1
        obtain ⟨⟨c0, c1, c2, c3⟩, g0, g1, g2, g3⟩ := blk4 pz
        obtain ⟨⟨⟨q0, q1⟩, q2, q3⟩, hk4⟩ := stored4 pz (.int .i64 x) (.int .i64 y) (.slice (some ⟨w1.heap.size, 0, none⟩) k k) (.slice (some ⟨g7, 0, none⟩) k m6)
        replace q0 := Lib.hid q0
        replace q1 := Lib.hid q1
        replace q2 := Lib.hid q2
        replace q3 := Lib.hid q3
        have hfin := Lib.hid (And.intro ((hTR.off hk4 fun k e => by omega).gameB (lo := w.heap.size) (by omega)) (keptc (hk00.trans hkz) hk4 fun k e1 e2 => by omega))
        clear pz
        replace hwz := Lib.hid hwz
        go_wp2_with fail
        refine bodyPost_ret (v := .agg #[.int .i64 x, .int .i64 y, .slice (some ⟨w1.heap.size, 0, none⟩) k k, .slice (some ⟨g7, 0, none⟩) k m6]) (by simp [results, Try.results144, go_sem, q0.out, q1.out, q2.out, q3.out]) rfl (by first | exact ⟨_, _, rfl, hfin.out.1, hfin.out.2⟩ | exact ⟨_, rfl, ⟨_, hfin.out.1⟩, hfin.out.2⟩)
      have hq2' : ((q : Int) == 2) = false := by simp; omega
      by_cases hq3 : q = 3
      · subst hq3
        have hm6 : k ≤ m6 := by obtain ⟨vs7, ⟨a, c, e, hl, -⟩, hn7, -⟩ := hT.row.rows; simp only [Value.slice.injEq] at e; omega
        obtain ⟨A, hA⟩ : ∃ A : Option Addr, A = (if m6 = 1 then some ⟨g7, 0, none⟩ else some ⟨g7, 1, none⟩) := ⟨_, rfl⟩
        have hRB : RowsB w1 (gb + 1) (.slice A (k - 1) (m6 - 1)) rx.tail := by
          rw [hA]
          split
          · have hk1 : k = 1 := by omega
            refine ⟨[], ⟨some ⟨g7, 0, none⟩, 0, ?_, by simp, fun j u hu => by simp at hu⟩, by simp [hr, hk1], fun i h => by simp at h, fun g e => ?_, fun i h => by simp at h⟩
            · rename_i hm1
              simp [hk1, hm1]
            · simp [Value.ownBlock] at e
              omega
          · exact rowsB_tail hT.rd.r hk0'
        obtain ⟨⟨-, -, -, z3⟩, -, -, -, f3⟩ := blk4 hT.box
        have hTR := GamR.setR hT.rd hRB
        have hkz := keptc hkk (keptOff_set w1 gb 3 (.slice A (k - 1) (m6 - 1))) (fun j e1 e2 => by omega)
        replace hTR := Lib.hid hTR
        replace hkz := Lib.hid hkz
        go_upto_region 23 with fail
        obtain ⟨w9, hw9⟩ : ∃ z, z = w1.setCell ⟨gb, 3, none⟩ (.slice A (k - 1) (m6 - 1)) := ⟨_, rfl⟩
        rw [← hw9] at hTR hkz
        rw [← hA, ← hw9]
        clear hA
        clear hw9 hT hkk hc1 z3 f3 hRB
        replace hTR := hTR.out
        replace hkz := hkz.out
        obtain ⟨⟨z0, z1, z2, z3⟩, -⟩ := blk4 hTR.box
        have pz := (hkz.block _ (by omega) (by omega)).trans p0
        have hwz := (Array.getElem?_eq_some_iff.1 pz).1
        obtain ⟨⟨c0, c1, c2, c3⟩, g0, g1, g2, g3⟩ := blk4 pz
        obtain ⟨⟨⟨q0, q1⟩, q2, q3⟩, hk4⟩ := stored4 pz (.int .i64 x) (.int .i64 y) (.slice (some ⟨g6, 0, none⟩) k k6) (.slice A (k - 1) (m6 - 1))
        replace q0 := Lib.hid q0
        replace q1 := Lib.hid q1
        replace q2 := Lib.hid q2
        replace q3 := Lib.hid q3
        have hfin := Lib.hid (And.intro ((hTR.off hk4 fun k e => by omega).gameB (lo := w.heap.size) (by omega)) (keptc (hk00.trans hkz) hk4 fun k e1 e2 => by omega))
        clear pz
        replace hwz := Lib.hid hwz
        go_wp2_with fail
        refine bodyPost_ret (v := .agg #[.int .i64 x, .int .i64 y, .slice (some ⟨g6, 0, none⟩) k k6, .slice A (k - 1) (m6 - 1)]) (by simp [results, Try.results144, go_sem, q0.out, q1.out, q2.out, q3.out]) rfl (by first | exact ⟨_, _, rfl, hfin.out.1, hfin.out.2⟩ | exact ⟨_, rfl, ⟨_, hfin.out.1⟩, hfin.out.2⟩)
      have hq3' : ((q : Int) == 3) = false := by simp; omega
      have hTR := hT.rd
      clear hT
      obtain ⟨⟨z0, z1, z2, z3⟩, -⟩ := blk4 hTR.box
      have pz := (hkk.block _ (by omega) (by omega)).trans p0
      have hwz := (Array.getElem?_eq_some_iff.1 pz).1
      obtain ⟨⟨c0, c1, c2, c3⟩, g0, g1, g2, g3⟩ := blk4 pz
      obtain ⟨⟨⟨q0, q1⟩, q2, q3⟩, hk4⟩ := stored4 pz (.int .i64 x) (.int .i64 y) (.slice (some ⟨g6, 0, none⟩) k k6) (.slice (some ⟨g7, 0, none⟩) k m6)
      replace q0 := Lib.hid q0
      replace q1 := Lib.hid q1
      replace q2 := Lib.hid q2
      replace q3 := Lib.hid q3
      have hfin := Lib.hid (And.intro ((hTR.off hk4 fun k e => by omega).gameB (lo := w.heap.size) (by omega)) (keptc (hk00.trans hkk) hk4 fun k e1 e2 => by omega))
      clear pz
      replace hwz := Lib.hid hwz
      go_wp2_with fail
      refine bodyPost_ret (v := .agg #[.int .i64 x, .int .i64 y, .slice (some ⟨g6, 0, none⟩) k k6, .slice (some ⟨g7, 0, none⟩) k m6]) (by simp [results, Try.results144, go_sem, q0.out, q1.out, q2.out, q3.out]) rfl (by first | exact ⟨_, _, rfl, hfin.out.1, hfin.out.2⟩ | exact ⟨_, rfl, ⟨_, hfin.out.1⟩, hfin.out.2⟩)

set_option maxRecDepth 100000 in
set_option maxHeartbeats 4000000 in
theorem c_game (cg K : Nat) (w : World) (h : CurR w cg K) (hK : K < 1072000000) :
    Calls Try.prog 134 #[.pointer (some ⟨cg, 0, none⟩)] w fun e w' => ∃ v r, e = .returned v ∧ GameB w' w.heap.size v r ∧ KeptOff (fun k => k = cg) w w' := by
  have hg := h.lt
  have hA0 := (Below.refl w.heap.size w).alloc (Nat.le_refl _) (.cells #[.int .i64 0, .int .i64 0, .slice none 0 0, .slice none 0 0] 46)
  obtain ⟨w0, hw0⟩ : ∃ z, z = w.alloc (.cells #[.int .i64 0, .int .i64 0, .slice none 0 0, .slice none 0 0] 46) := ⟨_, rfl⟩
  have hz0 : w0.heap.size = w.heap.size + 1 := by rw [hw0]; simp
  have p0 : w0.heap[w.heap.size]? = some (.cells #[.int .i64 0, .int .i64 0, .slice none 0 0, .slice none 0 0] 46 (0, 0)) := by rw [hw0]; exact heap_alloc_at rfl
  rw [← hw0] at hA0
  have hk00 : KeptOff (fun k => k = cg) w w0 := (kept0 hA0).mono fun _ f => f.elim
  go_enter Try.func134, Try.ntmps134
  go_wp2_with fail
  rw [← hw0]
  clear hw0
  refine (c_sizes cg K _ (h.below hA0) (by omega)).mono ?_
  rintro e w1 ⟨x, y, rfl, hx, hy, hc1, hk1⟩
  have hz1 := hk1.size
  go_wp2_with fail
  refine (c_gameOf cg (K + 10) x y _ hc1 (by omega)).mono ?_
  rintro e w2 ⟨v, r, rfl, hG, hk2⟩
  have hkk := hk1.trans hk2
  have pz := (hkk.block w.heap.size (by omega) (by omega)).trans p0
  obtain ⟨a, k, b, m, rfl⟩ := hG.form
  obtain ⟨n1, hn1⟩ : ∃ n, n = r.p.length := ⟨_, rfl⟩
  obtain ⟨n2, hn2⟩ : ∃ n, n = r.r.length := ⟨_, rfl⟩
  obtain ⟨rx, hrx⟩ : ∃ n, n = r.x := ⟨_, rfl⟩
  obtain ⟨ry, hry⟩ : ∃ n, n = r.y := ⟨_, rfl⟩
  rw [← hn1, ← hn2, ← hrx, ← hry] at hG ⊢
  clear hn1 hn2 hrx hry
  obtain ⟨⟨c0, c1, c2, c3⟩, g0, g1, g2, g3⟩ := blk4 pz
  obtain ⟨⟨⟨q0, q1⟩, q2, q3⟩, hk4⟩ := stored4 pz (.int .i64 rx) (.int .i64 ry) (.slice a n1 k) (.slice b n2 m)
  replace q0 := Lib.hid q0
  replace q1 := Lib.hid q1
  replace q2 := Lib.hid q2
  replace q3 := Lib.hid q3
  have hfin := Lib.hid (And.intro ((hG.off hk4 fun k e => by omega).mono (show w.heap.size ≤ w1.heap.size by omega)) (keptc (hk00.trans hkk) hk4 fun k e1 e2 => by omega))
  clear pz p0 hG hkk hk1 hk2 hk4
  go_wp2
  refine bodyPost_ret (v := .agg #[.int .i64 rx, .int .i64 ry, .slice a n1 k, .slice b n2 m]) (by simp [results, Try.results134, go_sem, q0.out, q1.out, q2.out, q3.out]) rfl (by first | exact ⟨_, _, rfl, hfin.out.1, hfin.out.2⟩ | exact ⟨_, rfl, ⟨_, hfin.out.1⟩, hfin.out.2⟩)
end Go.Proofs.Ytpieaeokbblflaa
