/- The contracts of BestCode and FairCode of the program; conditions: none. -/
import Derived.Test.YtjeaeninpmaoiaaBest
import Derived.WalkSpells
namespace Go.Proofs.Ytjeaeninpmaoiaa
open Go.RowKit

theorem c_totalV (v : Value) (n size k : Nat) (w : World) (h : Ints w v (mapR (scoreF (asgL size k)) n)) (hs : size ≤ 8) (hn : n ≤ 3) :
    Calls Try.prog 62 #[v] w fun e w' => e = .returned (.int .i64 (totV n (asgL size k))) ∧ w = w' :=
  c_total v _ w h (scores_le _ _ (by rw [asgL_len]; exact hs)) (by rw [mapR_len]; omega)
theorem c_leastV (v : Value) (n size k : Nat) (w : World) (h : Ints w v (mapR (scoreF (asgL size k)) n)) (_ : size ≤ 8) (hn : 0 < n) :
    Calls Try.prog 68 #[v] w fun e w' => e = .returned (.int .i64 (leaV n (asgL size k))) ∧ w = w' :=
  c_least v _ w h (by rw [mapR_len]; exact hn)

set_option maxRecDepth 100000 in
set_option maxHeartbeats 2000000 in
theorem c_firstCode_totV_1 (w : World) :
    Calls Try.prog 61 #[.int .i64 1, .func (.func 62) #[] #[]] w fun e w' => ∃ v, e = .returned v ∧ OwnI w' w.heap.size v (asgL 2 (bst (fun k => totV 1 (asgL 2 k)) (4 - 1))) ∧ Below w.heap.size w w' := by
  obtain ⟨f, hf⟩ : ∃ f : Nat → Int, f = fun k => totV 1 (asgL 2 k) := ⟨_, rfl⟩
  rw [← hf]
  have hfe : ∀ k, totV 1 (asgL 2 k) = f k := fun k => by rw [hf]
  replace hfe := Lib.hid hfe
  clear hf
  have hnil := fun (w : World) (a : Option Addr) (n c : Nat) => Lib.run_eql_slice_nil (P := Try.prog) w 26 3 a n c 0 0 Try.underlying26
  go_enter Try.func61, Try.ntmps61
  go_wp2
  go_region
  go_wp2
  go_loopw [5, 6, 16] (fun v m j wr => ∃ k : Nat, k ≤ 4 ∧ j = .int .i64 k ∧ Hid (Best wr w.heap.size f 2 k (.slice none 0 0) 0 v m) ∧ Below w.heap.size w wr) (fun _ _ j _ => 4 - (intOf j).toNat)
  case atStart => exact ⟨0, Nat.zero_le _, rfl, .inl ⟨rfl, rfl, rfl⟩, (Below.refl _ _).drew⟩
  case round =>
    obtain ⟨k, hk, rfl, hbest, hB⟩ := hrel
    have hsz := hB.size
    by_cases hlt : k < 4
    · obtain ⟨wo, rfl⟩ : ∃ wo : World, wo = wr := ⟨_, rfl⟩
      have hd : decide ((k : Int) < 4) = true := by simp; omega
      go_wp2
      go_loopw [9, 10, 21] (fun v _ j wr => ∃ i : Nat, i ≤ 2 ∧ j = .int .i64 i ∧ OwnI wr wo.heap.size v (mapR (fun i => bitAt (2 - 1 - i) k) i) ∧ Below wo.heap.size wo wr) (fun _ _ j _ => 2 - (intOf j).toNat)
      case atStart => exact ⟨0, Nat.zero_le _, rfl, own_empty _ _ (Nat.le_refl _), (Below.refl _ _).alloc (Nat.le_refl _) _⟩
      case round =>
        obtain ⟨i, hi, rfl, hown, hBo⟩ := hrel
        have hszo := hBo.size
        by_cases hlti : i < 2
        · have hE : Hid (bits .and .i64 ((k : Int) / 2 ^ (1 - i)) 1 = bitAt (2 - 1 - i) k) := Lib.hid (and1_div k (1 - i) (by omega))
          have hd2 : decide ((i : Int) < 2) = true := by simp; omega
          go_wp2_with (at_builtin; refine wp_append_int _ _ rfl _ _ rfl wo.heap.size _ _ rfl hown rfl (by first | rfl | simp) (by rw [mapR_len]; omega) hszo ?_; intro v' w1 hown1 _ hB1 _)
          rw [hE.out] at hown1
          have hown2 : OwnI w1 wo.heap.size v' (mapR (fun i => bitAt (2 - 1 - i) k) (i + 1)) := by rw [mapR_succ]; exact hown1
          go_roundw
          case rel => exact ⟨i + 1, by omega, by go_num, hown2, hBo.trans hB1⟩
          case measure => simp [intOf]; omega
        · obtain rfl : i = 2 := by omega
          have hlen : (asgL 2 k).length = 2 := asgL_len _ _
          go_wp2_with fail
          refine (c_scores _ (asgL 2 k) 1 _ hown.ints (by rw [asgL_len]; omega) (by omega) (asgL_01 _ _)).mono ?_
          rintro e w2 ⟨v2, rfl, hv2, hb2⟩
          have hsz2 := hb2.size
          go_wp2_with fail
          have hc := c_totalV v2 1 2 k w2 hv2.ints (by omega) (by omega)
          rw [hfe.out k] at hc
          refine hc.mono ?_
          clear hc
          rintro e w3 ⟨rfl, rfl⟩
          have hv1 := (hown.below hb2).mono hsz
          have hne := Lib.hid (hv1.ne_nil (by rw [show (mapR (fun i => bitAt (2 - 1 - i) k) 2) = asgL 2 k from rfl, asgL_len]; omega))
          replace hbest := Lib.hid ((hbest.out.below hBo).below hb2)
          replace hB := bstep (bstep hB hBo) hb2
          rcases hbest.out with ⟨h0, rfl, rfl⟩ | ⟨h0, hv, hvn, rfl⟩
          · replace h0 := Lib.hid h0
            go_wp2
            go_roundw
            case rel => exact ⟨k + 1, by omega, by go_num, Best.first h0.out hv1 hne.out, hB⟩
            case measure => simp [intOf]; omega
          · rcases hv.shape with ⟨e, -⟩ | ⟨g, cap, e, -⟩
            · exact absurd e hvn
            · subst e
              replace hvn := Lib.hid hvn
              by_cases hgt : f (bst f (k - 1)) < f k
              · go_wp2
                go_roundw
                case rel => exact ⟨k + 1, by omega, by go_num, Best.more h0 hgt hv1 hne.out, hB⟩
                case measure => simp [intOf]; omega
              · go_wp2
                go_roundw
                case rel => exact ⟨k + 1, by omega, by go_num, Best.same h0 (by omega) hv hvn.out, hB⟩
                case measure => simp [intOf]; omega
    · obtain rfl : k = 4 := by omega
      rcases hbest.out with ⟨h0, -⟩ | ⟨-, hv, -⟩
      · omega
      · go_wp2
        go_ret
        exact ⟨_, rfl, hv, hB⟩
set_option maxRecDepth 100000 in
set_option maxHeartbeats 2000000 in
theorem c_firstCode_totV_2 (w : World) :
    Calls Try.prog 61 #[.int .i64 2, .func (.func 62) #[] #[]] w fun e w' => ∃ v, e = .returned v ∧ OwnI w' w.heap.size v (asgL 4 (bst (fun k => totV 2 (asgL 4 k)) (16 - 1))) ∧ Below w.heap.size w w' := by
  obtain ⟨f, hf⟩ : ∃ f : Nat → Int, f = fun k => totV 2 (asgL 4 k) := ⟨_, rfl⟩
  rw [← hf]
  have hfe : ∀ k, totV 2 (asgL 4 k) = f k := fun k => by rw [hf]
  replace hfe := Lib.hid hfe
  clear hf
  have hnil := fun (w : World) (a : Option Addr) (n c : Nat) => Lib.run_eql_slice_nil (P := Try.prog) w 26 3 a n c 0 0 Try.underlying26
  go_enter Try.func61, Try.ntmps61
  go_wp2
  go_region
  go_wp2
  go_loopw [5, 6, 16] (fun v m j wr => ∃ k : Nat, k ≤ 16 ∧ j = .int .i64 k ∧ Hid (Best wr w.heap.size f 4 k (.slice none 0 0) 0 v m) ∧ Below w.heap.size w wr) (fun _ _ j _ => 16 - (intOf j).toNat)
  case atStart => exact ⟨0, Nat.zero_le _, rfl, .inl ⟨rfl, rfl, rfl⟩, (Below.refl _ _).drew⟩
  case round =>
    obtain ⟨k, hk, rfl, hbest, hB⟩ := hrel
    have hsz := hB.size
    by_cases hlt : k < 16
    · obtain ⟨wo, rfl⟩ : ∃ wo : World, wo = wr := ⟨_, rfl⟩
      have hd : decide ((k : Int) < 16) = true := by simp; omega
      go_wp2
      go_loopw [9, 10, 21] (fun v _ j wr => ∃ i : Nat, i ≤ 4 ∧ j = .int .i64 i ∧ OwnI wr wo.heap.size v (mapR (fun i => bitAt (4 - 1 - i) k) i) ∧ Below wo.heap.size wo wr) (fun _ _ j _ => 4 - (intOf j).toNat)
      case atStart => exact ⟨0, Nat.zero_le _, rfl, own_empty _ _ (Nat.le_refl _), (Below.refl _ _).alloc (Nat.le_refl _) _⟩
      case round =>
        obtain ⟨i, hi, rfl, hown, hBo⟩ := hrel
        have hszo := hBo.size
        by_cases hlti : i < 4
        · have hE : Hid (bits .and .i64 ((k : Int) / 2 ^ (3 - i)) 1 = bitAt (4 - 1 - i) k) := Lib.hid (and1_div k (3 - i) (by omega))
          have hd2 : decide ((i : Int) < 4) = true := by simp; omega
          go_wp2_with (at_builtin; refine wp_append_int _ _ rfl _ _ rfl wo.heap.size _ _ rfl hown rfl (by first | rfl | simp) (by rw [mapR_len]; omega) hszo ?_; intro v' w1 hown1 _ hB1 _)
          rw [hE.out] at hown1
          have hown2 : OwnI w1 wo.heap.size v' (mapR (fun i => bitAt (4 - 1 - i) k) (i + 1)) := by rw [mapR_succ]; exact hown1
          go_roundw
          case rel => exact ⟨i + 1, by omega, by go_num, hown2, hBo.trans hB1⟩
          case measure => simp [intOf]; omega
        · obtain rfl : i = 4 := by omega
          have hlen : (asgL 4 k).length = 4 := asgL_len _ _
          go_wp2_with fail
          refine (c_scores _ (asgL 4 k) 2 _ hown.ints (by rw [asgL_len]; omega) (by omega) (asgL_01 _ _)).mono ?_
          rintro e w2 ⟨v2, rfl, hv2, hb2⟩
          have hsz2 := hb2.size
          go_wp2_with fail
          have hc := c_totalV v2 2 4 k w2 hv2.ints (by omega) (by omega)
          rw [hfe.out k] at hc
          refine hc.mono ?_
          clear hc
          rintro e w3 ⟨rfl, rfl⟩
          have hv1 := (hown.below hb2).mono hsz
          have hne := Lib.hid (hv1.ne_nil (by rw [show (mapR (fun i => bitAt (4 - 1 - i) k) 4) = asgL 4 k from rfl, asgL_len]; omega))
          replace hbest := Lib.hid ((hbest.out.below hBo).below hb2)
          replace hB := bstep (bstep hB hBo) hb2
          rcases hbest.out with ⟨h0, rfl, rfl⟩ | ⟨h0, hv, hvn, rfl⟩
          · replace h0 := Lib.hid h0
            go_wp2
            go_roundw
            case rel => exact ⟨k + 1, by omega, by go_num, Best.first h0.out hv1 hne.out, hB⟩
            case measure => simp [intOf]; omega
          · rcases hv.shape with ⟨e, -⟩ | ⟨g, cap, e, -⟩
            · exact absurd e hvn
            · subst e
              replace hvn := Lib.hid hvn
              by_cases hgt : f (bst f (k - 1)) < f k
              · go_wp2
                go_roundw
                case rel => exact ⟨k + 1, by omega, by go_num, Best.more h0 hgt hv1 hne.out, hB⟩
                case measure => simp [intOf]; omega
              · go_wp2
                go_roundw
                case rel => exact ⟨k + 1, by omega, by go_num, Best.same h0 (by omega) hv hvn.out, hB⟩
                case measure => simp [intOf]; omega
    · obtain rfl : k = 16 := by omega
      rcases hbest.out with ⟨h0, -⟩ | ⟨-, hv, -⟩
      · omega
      · go_wp2
        go_ret
        exact ⟨_, rfl, hv, hB⟩
set_option maxRecDepth 100000 in
set_option maxHeartbeats 2000000 in
theorem c_firstCode_totV_3 (w : World) :
    Calls Try.prog 61 #[.int .i64 3, .func (.func 62) #[] #[]] w fun e w' => ∃ v, e = .returned v ∧ OwnI w' w.heap.size v (asgL 8 (bst (fun k => totV 3 (asgL 8 k)) (256 - 1))) ∧ Below w.heap.size w w' := by
  obtain ⟨f, hf⟩ : ∃ f : Nat → Int, f = fun k => totV 3 (asgL 8 k) := ⟨_, rfl⟩
  rw [← hf]
  have hfe : ∀ k, totV 3 (asgL 8 k) = f k := fun k => by rw [hf]
  replace hfe := Lib.hid hfe
  clear hf
  have hnil := fun (w : World) (a : Option Addr) (n c : Nat) => Lib.run_eql_slice_nil (P := Try.prog) w 26 3 a n c 0 0 Try.underlying26
  go_enter Try.func61, Try.ntmps61
  go_wp2
  go_region
  go_wp2
  go_loopw [5, 6, 16] (fun v m j wr => ∃ k : Nat, k ≤ 256 ∧ j = .int .i64 k ∧ Hid (Best wr w.heap.size f 8 k (.slice none 0 0) 0 v m) ∧ Below w.heap.size w wr) (fun _ _ j _ => 256 - (intOf j).toNat)
  case atStart => exact ⟨0, Nat.zero_le _, rfl, .inl ⟨rfl, rfl, rfl⟩, (Below.refl _ _).drew⟩
  case round =>
    obtain ⟨k, hk, rfl, hbest, hB⟩ := hrel
    have hsz := hB.size
    by_cases hlt : k < 256
    · obtain ⟨wo, rfl⟩ : ∃ wo : World, wo = wr := ⟨_, rfl⟩
      have hd : decide ((k : Int) < 256) = true := by simp; omega
      go_wp2
      go_loopw [9, 10, 21] (fun v _ j wr => ∃ i : Nat, i ≤ 8 ∧ j = .int .i64 i ∧ OwnI wr wo.heap.size v (mapR (fun i => bitAt (8 - 1 - i) k) i) ∧ Below wo.heap.size wo wr) (fun _ _ j _ => 8 - (intOf j).toNat)
      case atStart => exact ⟨0, Nat.zero_le _, rfl, own_empty _ _ (Nat.le_refl _), (Below.refl _ _).alloc (Nat.le_refl _) _⟩
      case round =>
        obtain ⟨i, hi, rfl, hown, hBo⟩ := hrel
        have hszo := hBo.size
        by_cases hlti : i < 8
        · have hE : Hid (bits .and .i64 ((k : Int) / 2 ^ (7 - i)) 1 = bitAt (8 - 1 - i) k) := Lib.hid (and1_div k (7 - i) (by omega))
          have hd2 : decide ((i : Int) < 8) = true := by simp; omega
          go_wp2_with (at_builtin; refine wp_append_int _ _ rfl _ _ rfl wo.heap.size _ _ rfl hown rfl (by first | rfl | simp) (by rw [mapR_len]; omega) hszo ?_; intro v' w1 hown1 _ hB1 _)
          rw [hE.out] at hown1
          have hown2 : OwnI w1 wo.heap.size v' (mapR (fun i => bitAt (8 - 1 - i) k) (i + 1)) := by rw [mapR_succ]; exact hown1
          go_roundw
          case rel => exact ⟨i + 1, by omega, by go_num, hown2, hBo.trans hB1⟩
          case measure => simp [intOf]; omega
        · obtain rfl : i = 8 := by omega
          have hlen : (asgL 8 k).length = 8 := asgL_len _ _
          go_wp2_with fail
          refine (c_scores _ (asgL 8 k) 3 _ hown.ints (by rw [asgL_len]; omega) (by omega) (asgL_01 _ _)).mono ?_
          rintro e w2 ⟨v2, rfl, hv2, hb2⟩
          have hsz2 := hb2.size
          go_wp2_with fail
          have hc := c_totalV v2 3 8 k w2 hv2.ints (by omega) (by omega)
          rw [hfe.out k] at hc
          refine hc.mono ?_
          clear hc
          rintro e w3 ⟨rfl, rfl⟩
          have hv1 := (hown.below hb2).mono hsz
          have hne := Lib.hid (hv1.ne_nil (by rw [show (mapR (fun i => bitAt (8 - 1 - i) k) 8) = asgL 8 k from rfl, asgL_len]; omega))
          replace hbest := Lib.hid ((hbest.out.below hBo).below hb2)
          replace hB := bstep (bstep hB hBo) hb2
          rcases hbest.out with ⟨h0, rfl, rfl⟩ | ⟨h0, hv, hvn, rfl⟩
          · replace h0 := Lib.hid h0
            go_wp2
            go_roundw
            case rel => exact ⟨k + 1, by omega, by go_num, Best.first h0.out hv1 hne.out, hB⟩
            case measure => simp [intOf]; omega
          · rcases hv.shape with ⟨e, -⟩ | ⟨g, cap, e, -⟩
            · exact absurd e hvn
            · subst e
              replace hvn := Lib.hid hvn
              by_cases hgt : f (bst f (k - 1)) < f k
              · go_wp2
                go_roundw
                case rel => exact ⟨k + 1, by omega, by go_num, Best.more h0 hgt hv1 hne.out, hB⟩
                case measure => simp [intOf]; omega
              · go_wp2
                go_roundw
                case rel => exact ⟨k + 1, by omega, by go_num, Best.same h0 (by omega) hv hvn.out, hB⟩
                case measure => simp [intOf]; omega
    · obtain rfl : k = 256 := by omega
      rcases hbest.out with ⟨h0, -⟩ | ⟨-, hv, -⟩
      · omega
      · go_wp2
        go_ret
        exact ⟨_, rfl, hv, hB⟩
set_option maxRecDepth 100000 in
set_option maxHeartbeats 2000000 in
theorem c_firstCode_leaV_1 (w : World) :
    Calls Try.prog 61 #[.int .i64 1, .func (.func 68) #[] #[]] w fun e w' => ∃ v, e = .returned v ∧ OwnI w' w.heap.size v (asgL 2 (bst (fun k => leaV 1 (asgL 2 k)) (4 - 1))) ∧ Below w.heap.size w w' := by
  obtain ⟨f, hf⟩ : ∃ f : Nat → Int, f = fun k => leaV 1 (asgL 2 k) := ⟨_, rfl⟩
  rw [← hf]
  have hfe : ∀ k, leaV 1 (asgL 2 k) = f k := fun k => by rw [hf]
  replace hfe := Lib.hid hfe
  clear hf
  have hnil := fun (w : World) (a : Option Addr) (n c : Nat) => Lib.run_eql_slice_nil (P := Try.prog) w 26 3 a n c 0 0 Try.underlying26
  go_enter Try.func61, Try.ntmps61
  go_wp2
  go_region
  go_wp2
  go_loopw [5, 6, 16] (fun v m j wr => ∃ k : Nat, k ≤ 4 ∧ j = .int .i64 k ∧ Hid (Best wr w.heap.size f 2 k (.slice none 0 0) 0 v m) ∧ Below w.heap.size w wr) (fun _ _ j _ => 4 - (intOf j).toNat)
  case atStart => exact ⟨0, Nat.zero_le _, rfl, .inl ⟨rfl, rfl, rfl⟩, (Below.refl _ _).drew⟩
  case round =>
    obtain ⟨k, hk, rfl, hbest, hB⟩ := hrel
    have hsz := hB.size
    by_cases hlt : k < 4
    · obtain ⟨wo, rfl⟩ : ∃ wo : World, wo = wr := ⟨_, rfl⟩
      have hd : decide ((k : Int) < 4) = true := by simp; omega
      go_wp2
      go_loopw [9, 10, 21] (fun v _ j wr => ∃ i : Nat, i ≤ 2 ∧ j = .int .i64 i ∧ OwnI wr wo.heap.size v (mapR (fun i => bitAt (2 - 1 - i) k) i) ∧ Below wo.heap.size wo wr) (fun _ _ j _ => 2 - (intOf j).toNat)
      case atStart => exact ⟨0, Nat.zero_le _, rfl, own_empty _ _ (Nat.le_refl _), (Below.refl _ _).alloc (Nat.le_refl _) _⟩
      case round =>
        obtain ⟨i, hi, rfl, hown, hBo⟩ := hrel
        have hszo := hBo.size
        by_cases hlti : i < 2
        · have hE : Hid (bits .and .i64 ((k : Int) / 2 ^ (1 - i)) 1 = bitAt (2 - 1 - i) k) := Lib.hid (and1_div k (1 - i) (by omega))
          have hd2 : decide ((i : Int) < 2) = true := by simp; omega
          go_wp2_with (at_builtin; refine wp_append_int _ _ rfl _ _ rfl wo.heap.size _ _ rfl hown rfl (by first | rfl | simp) (by rw [mapR_len]; omega) hszo ?_; intro v' w1 hown1 _ hB1 _)
          rw [hE.out] at hown1
          have hown2 : OwnI w1 wo.heap.size v' (mapR (fun i => bitAt (2 - 1 - i) k) (i + 1)) := by rw [mapR_succ]; exact hown1
          go_roundw
          case rel => exact ⟨i + 1, by omega, by go_num, hown2, hBo.trans hB1⟩
          case measure => simp [intOf]; omega
        · obtain rfl : i = 2 := by omega
          have hlen : (asgL 2 k).length = 2 := asgL_len _ _
          go_wp2_with fail
          refine (c_scores _ (asgL 2 k) 1 _ hown.ints (by rw [asgL_len]; omega) (by omega) (asgL_01 _ _)).mono ?_
          rintro e w2 ⟨v2, rfl, hv2, hb2⟩
          have hsz2 := hb2.size
          go_wp2_with fail
          have hc := c_leastV v2 1 2 k w2 hv2.ints (by omega) (by omega)
          rw [hfe.out k] at hc
          refine hc.mono ?_
          clear hc
          rintro e w3 ⟨rfl, rfl⟩
          have hv1 := (hown.below hb2).mono hsz
          have hne := Lib.hid (hv1.ne_nil (by rw [show (mapR (fun i => bitAt (2 - 1 - i) k) 2) = asgL 2 k from rfl, asgL_len]; omega))
          replace hbest := Lib.hid ((hbest.out.below hBo).below hb2)
          replace hB := bstep (bstep hB hBo) hb2
          rcases hbest.out with ⟨h0, rfl, rfl⟩ | ⟨h0, hv, hvn, rfl⟩
          · replace h0 := Lib.hid h0
            go_wp2
            go_roundw
            case rel => exact ⟨k + 1, by omega, by go_num, Best.first h0.out hv1 hne.out, hB⟩
            case measure => simp [intOf]; omega
          · rcases hv.shape with ⟨e, -⟩ | ⟨g, cap, e, -⟩
            · exact absurd e hvn
            · subst e
              replace hvn := Lib.hid hvn
              by_cases hgt : f (bst f (k - 1)) < f k
              · go_wp2
                go_roundw
                case rel => exact ⟨k + 1, by omega, by go_num, Best.more h0 hgt hv1 hne.out, hB⟩
                case measure => simp [intOf]; omega
              · go_wp2
                go_roundw
                case rel => exact ⟨k + 1, by omega, by go_num, Best.same h0 (by omega) hv hvn.out, hB⟩
                case measure => simp [intOf]; omega
    · obtain rfl : k = 4 := by omega
      rcases hbest.out with ⟨h0, -⟩ | ⟨-, hv, -⟩
      · omega
      · go_wp2
        go_ret
        exact ⟨_, rfl, hv, hB⟩
set_option maxRecDepth 100000 in
set_option maxHeartbeats 2000000 in
theorem c_firstCode_leaV_2 (w : World) :
    Calls Try.prog 61 #[.int .i64 2, .func (.func 68) #[] #[]] w fun e w' => ∃ v, e = .returned v ∧ OwnI w' w.heap.size v (asgL 4 (bst (fun k => leaV 2 (asgL 4 k)) (16 - 1))) ∧ Below w.heap.size w w' := by
  obtain ⟨f, hf⟩ : ∃ f : Nat → Int, f = fun k => leaV 2 (asgL 4 k) := ⟨_, rfl⟩
  rw [← hf]
  have hfe : ∀ k, leaV 2 (asgL 4 k) = f k := fun k => by rw [hf]
  replace hfe := Lib.hid hfe
  clear hf
  have hnil := fun (w : World) (a : Option Addr) (n c : Nat) => Lib.run_eql_slice_nil (P := Try.prog) w 26 3 a n c 0 0 Try.underlying26
  go_enter Try.func61, Try.ntmps61
  go_wp2
  go_region
  go_wp2
  go_loopw [5, 6, 16] (fun v m j wr => ∃ k : Nat, k ≤ 16 ∧ j = .int .i64 k ∧ Hid (Best wr w.heap.size f 4 k (.slice none 0 0) 0 v m) ∧ Below w.heap.size w wr) (fun _ _ j _ => 16 - (intOf j).toNat)
  case atStart => exact ⟨0, Nat.zero_le _, rfl, .inl ⟨rfl, rfl, rfl⟩, (Below.refl _ _).drew⟩
  case round =>
    obtain ⟨k, hk, rfl, hbest, hB⟩ := hrel
    have hsz := hB.size
    by_cases hlt : k < 16
    · obtain ⟨wo, rfl⟩ : ∃ wo : World, wo = wr := ⟨_, rfl⟩
      have hd : decide ((k : Int) < 16) = true := by simp; omega
      go_wp2
      go_loopw [9, 10, 21] (fun v _ j wr => ∃ i : Nat, i ≤ 4 ∧ j = .int .i64 i ∧ OwnI wr wo.heap.size v (mapR (fun i => bitAt (4 - 1 - i) k) i) ∧ Below wo.heap.size wo wr) (fun _ _ j _ => 4 - (intOf j).toNat)
      case atStart => exact ⟨0, Nat.zero_le _, rfl, own_empty _ _ (Nat.le_refl _), (Below.refl _ _).alloc (Nat.le_refl _) _⟩
      case round =>
        obtain ⟨i, hi, rfl, hown, hBo⟩ := hrel
        have hszo := hBo.size
        by_cases hlti : i < 4
        · have hE : Hid (bits .and .i64 ((k : Int) / 2 ^ (3 - i)) 1 = bitAt (4 - 1 - i) k) := Lib.hid (and1_div k (3 - i) (by omega))
          have hd2 : decide ((i : Int) < 4) = true := by simp; omega
          go_wp2_with (at_builtin; refine wp_append_int _ _ rfl _ _ rfl wo.heap.size _ _ rfl hown rfl (by first | rfl | simp) (by rw [mapR_len]; omega) hszo ?_; intro v' w1 hown1 _ hB1 _)
          rw [hE.out] at hown1
          have hown2 : OwnI w1 wo.heap.size v' (mapR (fun i => bitAt (4 - 1 - i) k) (i + 1)) := by rw [mapR_succ]; exact hown1
          go_roundw
          case rel => exact ⟨i + 1, by omega, by go_num, hown2, hBo.trans hB1⟩
          case measure => simp [intOf]; omega
        · obtain rfl : i = 4 := by omega
          have hlen : (asgL 4 k).length = 4 := asgL_len _ _
          go_wp2_with fail
          refine (c_scores _ (asgL 4 k) 2 _ hown.ints (by rw [asgL_len]; omega) (by omega) (asgL_01 _ _)).mono ?_
          rintro e w2 ⟨v2, rfl, hv2, hb2⟩
          have hsz2 := hb2.size
          go_wp2_with fail
          have hc := c_leastV v2 2 4 k w2 hv2.ints (by omega) (by omega)
          rw [hfe.out k] at hc
          refine hc.mono ?_
          clear hc
          rintro e w3 ⟨rfl, rfl⟩
          have hv1 := (hown.below hb2).mono hsz
          have hne := Lib.hid (hv1.ne_nil (by rw [show (mapR (fun i => bitAt (4 - 1 - i) k) 4) = asgL 4 k from rfl, asgL_len]; omega))
          replace hbest := Lib.hid ((hbest.out.below hBo).below hb2)
          replace hB := bstep (bstep hB hBo) hb2
          rcases hbest.out with ⟨h0, rfl, rfl⟩ | ⟨h0, hv, hvn, rfl⟩
          · replace h0 := Lib.hid h0
            go_wp2
            go_roundw
            case rel => exact ⟨k + 1, by omega, by go_num, Best.first h0.out hv1 hne.out, hB⟩
            case measure => simp [intOf]; omega
          · rcases hv.shape with ⟨e, -⟩ | ⟨g, cap, e, -⟩
            · exact absurd e hvn
            · subst e
              replace hvn := Lib.hid hvn
              by_cases hgt : f (bst f (k - 1)) < f k
              · go_wp2
                go_roundw
                case rel => exact ⟨k + 1, by omega, by go_num, Best.more h0 hgt hv1 hne.out, hB⟩
                case measure => simp [intOf]; omega
              · go_wp2
                go_roundw
                case rel => exact ⟨k + 1, by omega, by go_num, Best.same h0 (by omega) hv hvn.out, hB⟩
                case measure => simp [intOf]; omega
    · obtain rfl : k = 16 := by omega
      rcases hbest.out with ⟨h0, -⟩ | ⟨-, hv, -⟩
      · omega
      · go_wp2
        go_ret
        exact ⟨_, rfl, hv, hB⟩
set_option maxRecDepth 100000 in
set_option maxHeartbeats 2000000 in
theorem c_firstCode_leaV_3 (w : World) :
    Calls Try.prog 61 #[.int .i64 3, .func (.func 68) #[] #[]] w fun e w' => ∃ v, e = .returned v ∧ OwnI w' w.heap.size v (asgL 8 (bst (fun k => leaV 3 (asgL 8 k)) (256 - 1))) ∧ Below w.heap.size w w' := by
  obtain ⟨f, hf⟩ : ∃ f : Nat → Int, f = fun k => leaV 3 (asgL 8 k) := ⟨_, rfl⟩
  rw [← hf]
  have hfe : ∀ k, leaV 3 (asgL 8 k) = f k := fun k => by rw [hf]
  replace hfe := Lib.hid hfe
  clear hf
  have hnil := fun (w : World) (a : Option Addr) (n c : Nat) => Lib.run_eql_slice_nil (P := Try.prog) w 26 3 a n c 0 0 Try.underlying26
  go_enter Try.func61, Try.ntmps61
  go_wp2
  go_region
  go_wp2
  go_loopw [5, 6, 16] (fun v m j wr => ∃ k : Nat, k ≤ 256 ∧ j = .int .i64 k ∧ Hid (Best wr w.heap.size f 8 k (.slice none 0 0) 0 v m) ∧ Below w.heap.size w wr) (fun _ _ j _ => 256 - (intOf j).toNat)
  case atStart => exact ⟨0, Nat.zero_le _, rfl, .inl ⟨rfl, rfl, rfl⟩, (Below.refl _ _).drew⟩
  case round =>
    obtain ⟨k, hk, rfl, hbest, hB⟩ := hrel
    have hsz := hB.size
    by_cases hlt : k < 256
    · obtain ⟨wo, rfl⟩ : ∃ wo : World, wo = wr := ⟨_, rfl⟩
      have hd : decide ((k : Int) < 256) = true := by simp; omega
      go_wp2
      go_loopw [9, 10, 21] (fun v _ j wr => ∃ i : Nat, i ≤ 8 ∧ j = .int .i64 i ∧ OwnI wr wo.heap.size v (mapR (fun i => bitAt (8 - 1 - i) k) i) ∧ Below wo.heap.size wo wr) (fun _ _ j _ => 8 - (intOf j).toNat)
      case atStart => exact ⟨0, Nat.zero_le _, rfl, own_empty _ _ (Nat.le_refl _), (Below.refl _ _).alloc (Nat.le_refl _) _⟩
      case round =>
        obtain ⟨i, hi, rfl, hown, hBo⟩ := hrel
        have hszo := hBo.size
        by_cases hlti : i < 8
        · have hE : Hid (bits .and .i64 ((k : Int) / 2 ^ (7 - i)) 1 = bitAt (8 - 1 - i) k) := Lib.hid (and1_div k (7 - i) (by omega))
          have hd2 : decide ((i : Int) < 8) = true := by simp; omega
          go_wp2_with (at_builtin; refine wp_append_int _ _ rfl _ _ rfl wo.heap.size _ _ rfl hown rfl (by first | rfl | simp) (by rw [mapR_len]; omega) hszo ?_; intro v' w1 hown1 _ hB1 _)
          rw [hE.out] at hown1
          have hown2 : OwnI w1 wo.heap.size v' (mapR (fun i => bitAt (8 - 1 - i) k) (i + 1)) := by rw [mapR_succ]; exact hown1
          go_roundw
          case rel => exact ⟨i + 1, by omega, by go_num, hown2, hBo.trans hB1⟩
          case measure => simp [intOf]; omega
        · obtain rfl : i = 8 := by omega
          have hlen : (asgL 8 k).length = 8 := asgL_len _ _
          go_wp2_with fail
          refine (c_scores _ (asgL 8 k) 3 _ hown.ints (by rw [asgL_len]; omega) (by omega) (asgL_01 _ _)).mono ?_
          rintro e w2 ⟨v2, rfl, hv2, hb2⟩
          have hsz2 := hb2.size
          go_wp2_with fail
          have hc := c_leastV v2 3 8 k w2 hv2.ints (by omega) (by omega)
          rw [hfe.out k] at hc
          refine hc.mono ?_
          clear hc
          rintro e w3 ⟨rfl, rfl⟩
          have hv1 := (hown.below hb2).mono hsz
          have hne := Lib.hid (hv1.ne_nil (by rw [show (mapR (fun i => bitAt (8 - 1 - i) k) 8) = asgL 8 k from rfl, asgL_len]; omega))
          replace hbest := Lib.hid ((hbest.out.below hBo).below hb2)
          replace hB := bstep (bstep hB hBo) hb2
          rcases hbest.out with ⟨h0, rfl, rfl⟩ | ⟨h0, hv, hvn, rfl⟩
          · replace h0 := Lib.hid h0
            go_wp2
            go_roundw
            case rel => exact ⟨k + 1, by omega, by go_num, Best.first h0.out hv1 hne.out, hB⟩
            case measure => simp [intOf]; omega
          · rcases hv.shape with ⟨e, -⟩ | ⟨g, cap, e, -⟩
            · exact absurd e hvn
            · subst e
              replace hvn := Lib.hid hvn
              by_cases hgt : f (bst f (k - 1)) < f k
              · go_wp2
                go_roundw
                case rel => exact ⟨k + 1, by omega, by go_num, Best.more h0 hgt hv1 hne.out, hB⟩
                case measure => simp [intOf]; omega
              · go_wp2
                go_roundw
                case rel => exact ⟨k + 1, by omega, by go_num, Best.same h0 (by omega) hv hvn.out, hB⟩
                case measure => simp [intOf]; omega
    · obtain rfl : k = 256 := by omega
      rcases hbest.out with ⟨h0, -⟩ | ⟨-, hv, -⟩
      · omega
      · go_wp2
        go_ret
        exact ⟨_, rfl, hv, hB⟩

def bestL (val : Nat → List Int → Int) (n : Int) : List Int := if inB 1 3 n then asgL (2 ^ n.toNat) (bst (fun k => val n.toNat (asgL (2 ^ n.toNat) k)) (2 ^ 2 ^ n.toNat - 1)) else []
theorem bestL_no {val : Nat → List Int → Int} {n : Int} (h : inB 1 3 n = false) : bestL val n = [] := by simp [bestL, h]

set_option maxRecDepth 100000 in
theorem c_spec_BestCode (n : Int) (w : World) :
    Calls Try.prog 27 #[.int .i64 n] w fun e w' => ∃ v, e = .returned (.tuple #[v, .bool (inB 1 3 n)]) ∧ OwnI w' w.heap.size v (bestL totV n) ∧ Below w.heap.size w w' := by
  cases hn : inB 1 3 n
  · have hF := Lib.hid (bestL_no (val := totV) hn)
    go_enter Try.func27, Try.ntmps27
    go_wp2_with (first | (go_at_call 51; refine (c_l1In _ _ _ _).mono ?_; rintro e w' ⟨rfl, rfl⟩) | (go_at_call 47; refine (c_isLetters _ _).mono ?_; rintro e w' ⟨rfl, rfl⟩))
    go_ret2
    exact ⟨_, rfl, by rw [hF.out]; exact ⟨own_empty _ _ (Nat.le_refl _), (Below.refl _ _).alloc (Nat.le_refl _) _⟩⟩
  · have hb := inB_iff.1 hn
    have : n = 1 ∨ n = 2 ∨ n = 3 := by omega
    rcases this with rfl | rfl | rfl
    · go_enter Try.func27, Try.ntmps27
      go_wp2_with (first | (go_at_call 51; refine (c_l1In _ _ _ _).mono ?_; rintro e w' ⟨rfl, rfl⟩) | (go_at_call 47; refine (c_isLetters _ _).mono ?_; rintro e w' ⟨rfl, rfl⟩))
      refine (c_l9First_false_1 _).mono ?_
      rintro e w1 ⟨v, rfl, hv, hb⟩
      go_wp2
      go_ret2
      exact ⟨_, rfl, hv, hb⟩
    · go_enter Try.func27, Try.ntmps27
      go_wp2_with (first | (go_at_call 51; refine (c_l1In _ _ _ _).mono ?_; rintro e w' ⟨rfl, rfl⟩) | (go_at_call 47; refine (c_isLetters _ _).mono ?_; rintro e w' ⟨rfl, rfl⟩))
      refine (c_l9First_false_2 _).mono ?_
      rintro e w1 ⟨v, rfl, hv, hb⟩
      go_wp2
      go_ret2
      exact ⟨_, rfl, hv, hb⟩
    · go_enter Try.func27, Try.ntmps27
      go_wp2_with (first | (go_at_call 51; refine (c_l1In _ _ _ _).mono ?_; rintro e w' ⟨rfl, rfl⟩) | (go_at_call 47; refine (c_isLetters _ _).mono ?_; rintro e w' ⟨rfl, rfl⟩))
      refine (c_l9First_false_3 _).mono ?_
      rintro e w1 ⟨v, rfl, hv, hb⟩
      go_wp2
      go_ret2
      exact ⟨_, rfl, hv, hb⟩
set_option maxRecDepth 100000 in
theorem c_spec_FairCode (n : Int) (w : World) :
    Calls Try.prog 29 #[.int .i64 n] w fun e w' => ∃ v, e = .returned (.tuple #[v, .bool (inB 1 3 n)]) ∧ OwnI w' w.heap.size v (bestL leaV n) ∧ Below w.heap.size w w' := by
  cases hn : inB 1 3 n
  · have hF := Lib.hid (bestL_no (val := leaV) hn)
    go_enter Try.func29, Try.ntmps29
    go_wp2_with (first | (go_at_call 51; refine (c_l1In _ _ _ _).mono ?_; rintro e w' ⟨rfl, rfl⟩) | (go_at_call 47; refine (c_isLetters _ _).mono ?_; rintro e w' ⟨rfl, rfl⟩))
    go_ret2
    exact ⟨_, rfl, by rw [hF.out]; exact ⟨own_empty _ _ (Nat.le_refl _), (Below.refl _ _).alloc (Nat.le_refl _) _⟩⟩
  · have hb := inB_iff.1 hn
    have : n = 1 ∨ n = 2 ∨ n = 3 := by omega
    rcases this with rfl | rfl | rfl
    · go_enter Try.func29, Try.ntmps29
      go_wp2_with (first | (go_at_call 51; refine (c_l1In _ _ _ _).mono ?_; rintro e w' ⟨rfl, rfl⟩) | (go_at_call 47; refine (c_isLetters _ _).mono ?_; rintro e w' ⟨rfl, rfl⟩))
      refine (c_l9First_true_1 _).mono ?_
      rintro e w1 ⟨v, rfl, hv, hb⟩
      go_wp2
      go_ret2
      exact ⟨_, rfl, hv, hb⟩
    · go_enter Try.func29, Try.ntmps29
      go_wp2_with (first | (go_at_call 51; refine (c_l1In _ _ _ _).mono ?_; rintro e w' ⟨rfl, rfl⟩) | (go_at_call 47; refine (c_isLetters _ _).mono ?_; rintro e w' ⟨rfl, rfl⟩))
      refine (c_l9First_true_2 _).mono ?_
      rintro e w1 ⟨v, rfl, hv, hb⟩
      go_wp2
      go_ret2
      exact ⟨_, rfl, hv, hb⟩
    · go_enter Try.func29, Try.ntmps29
      go_wp2_with (first | (go_at_call 51; refine (c_l1In _ _ _ _).mono ?_; rintro e w' ⟨rfl, rfl⟩) | (go_at_call 47; refine (c_isLetters _ _).mono ?_; rintro e w' ⟨rfl, rfl⟩))
      refine (c_l9First_true_3 _).mono ?_
      rintro e w1 ⟨v, rfl, hv, hb⟩
      go_wp2
      go_ret2
      exact ⟨_, rfl, hv, hb⟩
set_option maxRecDepth 100000 in
theorem c_impl_BestCode (n : Int) (w : World) :
    Calls Try.prog 19 #[.int .i64 n] w fun e w' => ∃ v, e = .returned (.tuple #[v, .bool (inB 1 3 n)]) ∧ OwnI w' w.heap.size v (bestL totV n) ∧ Below w.heap.size w w' := by
  cases hn : inB 1 3 n
  · have hF := Lib.hid (bestL_no (val := totV) hn)
    go_enter Try.func19, Try.ntmps19
    go_wp2_with (first | (go_at_call 51; refine (c_l1In _ _ _ _).mono ?_; rintro e w' ⟨rfl, rfl⟩) | (go_at_call 47; refine (c_isLetters _ _).mono ?_; rintro e w' ⟨rfl, rfl⟩))
    go_ret2
    exact ⟨_, rfl, by rw [hF.out]; exact ⟨own_nil _ _, Below.refl _ _⟩⟩
  · have hb := inB_iff.1 hn
    have : n = 1 ∨ n = 2 ∨ n = 3 := by omega
    rcases this with rfl | rfl | rfl
    · go_enter Try.func19, Try.ntmps19
      go_wp2_with (first | (go_at_call 51; refine (c_l1In _ _ _ _).mono ?_; rintro e w' ⟨rfl, rfl⟩) | (go_at_call 47; refine (c_isLetters _ _).mono ?_; rintro e w' ⟨rfl, rfl⟩))
      refine (c_firstCode_totV_1 _).mono ?_
      rintro e w1 ⟨v, rfl, hv, hb⟩
      go_wp2
      go_ret2
      exact ⟨_, rfl, hv, hb⟩
    · go_enter Try.func19, Try.ntmps19
      go_wp2_with (first | (go_at_call 51; refine (c_l1In _ _ _ _).mono ?_; rintro e w' ⟨rfl, rfl⟩) | (go_at_call 47; refine (c_isLetters _ _).mono ?_; rintro e w' ⟨rfl, rfl⟩))
      refine (c_firstCode_totV_2 _).mono ?_
      rintro e w1 ⟨v, rfl, hv, hb⟩
      go_wp2
      go_ret2
      exact ⟨_, rfl, hv, hb⟩
    · go_enter Try.func19, Try.ntmps19
      go_wp2_with (first | (go_at_call 51; refine (c_l1In _ _ _ _).mono ?_; rintro e w' ⟨rfl, rfl⟩) | (go_at_call 47; refine (c_isLetters _ _).mono ?_; rintro e w' ⟨rfl, rfl⟩))
      refine (c_firstCode_totV_3 _).mono ?_
      rintro e w1 ⟨v, rfl, hv, hb⟩
      go_wp2
      go_ret2
      exact ⟨_, rfl, hv, hb⟩
set_option maxRecDepth 100000 in
theorem c_impl_FairCode (n : Int) (w : World) :
    Calls Try.prog 28 #[.int .i64 n] w fun e w' => ∃ v, e = .returned (.tuple #[v, .bool (inB 1 3 n)]) ∧ OwnI w' w.heap.size v (bestL leaV n) ∧ Below w.heap.size w w' := by
  cases hn : inB 1 3 n
  · have hF := Lib.hid (bestL_no (val := leaV) hn)
    go_enter Try.func28, Try.ntmps28
    go_wp2_with (first | (go_at_call 51; refine (c_l1In _ _ _ _).mono ?_; rintro e w' ⟨rfl, rfl⟩) | (go_at_call 47; refine (c_isLetters _ _).mono ?_; rintro e w' ⟨rfl, rfl⟩))
    go_ret2
    exact ⟨_, rfl, by rw [hF.out]; exact ⟨own_nil _ _, Below.refl _ _⟩⟩
  · have hb := inB_iff.1 hn
    have : n = 1 ∨ n = 2 ∨ n = 3 := by omega
    rcases this with rfl | rfl | rfl
    · go_enter Try.func28, Try.ntmps28
      go_wp2_with (first | (go_at_call 51; refine (c_l1In _ _ _ _).mono ?_; rintro e w' ⟨rfl, rfl⟩) | (go_at_call 47; refine (c_isLetters _ _).mono ?_; rintro e w' ⟨rfl, rfl⟩))
      refine (c_firstCode_leaV_1 _).mono ?_
      rintro e w1 ⟨v, rfl, hv, hb⟩
      go_wp2
      go_ret2
      exact ⟨_, rfl, hv, hb⟩
    · go_enter Try.func28, Try.ntmps28
      go_wp2_with (first | (go_at_call 51; refine (c_l1In _ _ _ _).mono ?_; rintro e w' ⟨rfl, rfl⟩) | (go_at_call 47; refine (c_isLetters _ _).mono ?_; rintro e w' ⟨rfl, rfl⟩))
      refine (c_firstCode_leaV_2 _).mono ?_
      rintro e w1 ⟨v, rfl, hv, hb⟩
      go_wp2
      go_ret2
      exact ⟨_, rfl, hv, hb⟩
    · go_enter Try.func28, Try.ntmps28
      go_wp2_with (first | (go_at_call 51; refine (c_l1In _ _ _ _).mono ?_; rintro e w' ⟨rfl, rfl⟩) | (go_at_call 47; refine (c_isLetters _ _).mono ?_; rintro e w' ⟨rfl, rfl⟩))
      refine (c_firstCode_leaV_3 _).mono ?_
      rintro e w1 ⟨v, rfl, hv, hb⟩
      go_wp2
      go_ret2
      exact ⟨_, rfl, hv, hb⟩
end Go.Proofs.Ytjeaeninpmaoiaa
