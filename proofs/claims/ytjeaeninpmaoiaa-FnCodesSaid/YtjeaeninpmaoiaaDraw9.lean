/- Codes that are drawn; conditions: none. -/
import Derived.Test.YtjeaeninpmaoiaaBytes
import Derived.Test.YtjeaeninpmaoiaaBest
import Derived.Test.YtjeaeninpmaoiaaAppG
namespace Go.Proofs.Ytjeaeninpmaoiaa
open Go.RowKit

theorem lim4 (n : Int) (h : -1 ≤ n ∧ n ≤ 4) : ∃ m : Nat, m ≤ 4 ∧ max 0 (min n 4) = (m : Int) := ⟨n.toNat, by omega, by omega⟩
theorem shl_one5 : ∀ j : Nat, j < 5 → IntKind.i64.wrap ((2 : Int) ^ j) = ((2 ^ j : Nat) : Int) := by decide +kernel

set_option maxRecDepth 100000 in
set_option maxHeartbeats 4000000 in
theorem c_codeOf (g K : Nat) (n : Int) (w : World) (h : CurR w g K) (hK : K < 1073740000) (hn : -1 ≤ n ∧ n ≤ 4) :
    Calls Try.prog 56 #[.pointer (some ⟨g, 0, none⟩), .int .i64 n] w fun e w' => ∃ v' xs, e = .returned v' ∧ OwnI w' w.heap.size v' xs ∧ xs.length ≤ 17 ∧ CurR w' g (K + 40) ∧ KeptOff (fun k => k = g) w w' := by
  obtain ⟨m, hm, hmn⟩ := lim4 n hn
  have hs := shl_one5 m (by omega)
  have hp : 2 ^ m ≤ 16 := Nat.pow_le_pow_right (n := 2) (by decide) hm
  obtain ⟨P, hP⟩ : ∃ P, P = 2 ^ m := ⟨_, rfl⟩
  rw [← hP] at hs hp
  have hg := h.lt
  have hE := own_empty w w.heap.size (Nat.le_refl _)
  have hA := (Below.refl w.heap.size w).alloc (Nat.le_refl _) (.cells #[] 3)
  replace hP := Lib.hid hP
  go_enter Try.func56, Try.ntmps56
  go_wp2_with fail
  go_loopw [5, 6] (fun v i wr => ∃ (k : Nat) (xs : List Int), k ≤ P ∧ i = .int .i64 k ∧ OwnI wr w.heap.size v xs ∧ xs.length = k ∧ CurR wr g (K + 2 * k) ∧ KeptOff (fun k => k = g) w wr) (fun _ i _ => P - (intOf i).toNat)
  case atStart => exact ⟨0, [], by omega, rfl, hE, rfl, h.below hA, (kept0 hA).mono fun _ f => f.elim⟩
  case round =>
    obtain ⟨k, xs, hk, rfl, hown, hxl, hcur, hkept⟩ := hrel
    have hsz := hkept.size
    obtain ⟨wo, rfl⟩ : ∃ wo : World, wo = wr := ⟨_, rfl⟩
    go_wp2_with fail
    refine (c_l1Least n 4 _).mono ?_
    rintro e _ ⟨rfl, rfl⟩
    go_wp2_with fail
    refine (c_l1Most 0 (min n 4) _).mono ?_
    rintro e _ ⟨rfl, rfl⟩
    rw [hmn]
    by_cases hlt : k < P
    · have hd : decide ((k : Int) < (P : Int)) = true := by simp; omega
      go_wp2_with fail
      refine (c_pick g (K + 2 * k) 2 _ hcur (by omega) (by omega)).mono ?_
      rintro e w1 ⟨x, rfl, hx, hc1, hk1⟩
      have hown1 : OwnI w1 w.heap.size _ xs := hown.off hk1 fun q hq e => by have := OwnS.lt hown q hq; omega
      have hz1 := hk1.size
      have hkk := hkept.trans hk1
      clear hown hcur hkept
      go_wp2_with (at_builtin; refine wp_append_int _ _ rfl _ _ rfl w.heap.size _ xs rfl hown1 rfl (by first | rfl | simp) (by omega) (by omega) ?_; intro v' w2 hn2 hg2 hB2 _)
      have hc2 : CurR w2 g (K + 2 * k + 2) := hc1.off (keptOfB hB2 hB2.size) fun q hq => by omega
      have hk2 : KeptOff (fun k => k = g) w w2 := ⟨hB2.os.trans hkk.os, hB2.tape.trans hkk.tape, hB2.output.trans hkk.output, Nat.le_trans hkk.size hB2.size, fun q hq hf => (hB2.block q hq).trans (hkk.block q hq hf)⟩
      go_roundw
      case rel => first | exact ⟨k + 1, _, by omega, by go_num, hn2, by simp [hxl], hc2, hk2⟩ | ((repeat apply Exists.intro); exact ⟨⟨k + 1, _, by omega, rfl, hn2, by simp [hxl], hc2, hk2⟩, rfl⟩)
      case measure => simp [intOf]; omega
    · obtain rfl : k = P := by omega
      have hd : decide ((k : Int) < (k : Int)) = false := by simp
      go_wp2_with fail
      refine (c_one g (K + 2 * k) 30 _ hcur (by omega) (by omega)).mono ?_
      rintro e w1 ⟨b, rfl, hc1, hk1⟩
      have hown1 : OwnI w1 w.heap.size _ xs := hown.off hk1 fun q hq e => by have := OwnS.lt hown q hq; omega
      have hz1 := hk1.size
      have hkk := hkept.trans hk1
      clear hown hcur hkept
      cases b
      · go_wp2
        go_ret
        exact ⟨_, xs, rfl, hown1, by omega, hc1.more (by omega), hkk⟩
      · have hA2 := (Below.refl w1.heap.size w1).alloc (Nat.le_refl _) (.cells #[.int .i64 0, .int .i64 2] 3)
        have hlit := (own_lit w1 0 [0, 2] #[.int .i64 0, .int .i64 2] rfl (Nat.zero_le _) (by simp)).ints
        have hc2 := hc1.below hA2
        have hown2 := hown1.below hA2
        have hk2 := kept_later hkk hA2
        go_wp2_with fail
        refine (c_among g (K + 2 * k + 2) _ [0, 2] _ hc2 (by omega) hlit (by simp) (by simp) (by intro b off n c e; simp at e; omega)).mono ?_
        rintro e w3 ⟨y, rfl, hy, hc3, hk3⟩
        have hown3 : OwnI w3 w.heap.size _ xs := hown2.off hk3 fun q hq e => by have := OwnS.lt hown2 q hq; omega
        have hkk3 := hk2.trans hk3
        have hz3 := hkk3.size
        go_wp2_with (at_builtin; refine wp_append_int _ _ rfl _ _ rfl w.heap.size _ xs rfl hown3 rfl (by first | rfl | simp) (by omega) (by omega) ?_; intro v' w4 hn4 hg4 hB4 _)
        have hc4 : CurR w4 g (K + 2 * k + 2 + 2) := hc3.off (keptOfB hB4 hB4.size) fun q hq => by omega
        go_ret
        exact ⟨_, _, rfl, hn4, by simp; omega, hc4.more (by omega), ⟨hB4.os.trans hkk3.os, hB4.tape.trans hkk3.tape, hB4.output.trans hkk3.output, Nat.le_trans hkk3.size hB4.size, fun q hq hf => (hB4.block q hq).trans (hkk3.block q hq hf)⟩⟩

theorem Ints.take {w : World} {a : Option Addr} {n cap k : Nat} {xs : List Int} (h : Ints w (.slice a n cap) xs) (hk : k ≤ n) : Ints w (.slice a k cap) (xs.take k) := by
  obtain ⟨h1, h2, h3⟩ := h.cap
  obtain ⟨a', cap', e, hl, hc⟩ := h
  simp only [Value.slice.injEq] at e
  obtain ⟨rfl, -, rfl⟩ := e
  refine ⟨a, cap, by simp; omega, by simp at hl ⊢; omega, fun j u hu => hc j u ?_⟩
  simp only [List.getElem?_map, List.getElem?_take] at hu ⊢
  split at hu
  · exact hu
  · simp at hu
set_option maxRecDepth 100000 in
set_option maxHeartbeats 4000000 in
theorem c_code9 (g K : Nat) (w : World) (h : CurR w g K) (hK : K < 1073730000) :
    Calls Try.prog 55 #[.pointer (some ⟨g, 0, none⟩)] w fun e w' => ∃ n v' xs, e = .returned (.tuple #[.int .i64 n, v']) ∧ (-1 ≤ n ∧ n ≤ 4) ∧ OwnI w' w.heap.size v' xs ∧ xs.length ≤ 17 ∧ CurR w' g (K + 44) ∧ KeptOff (fun k => k = g) w w' := by
  have hg := h.lt
  have hlit := own_lit w w.heap.size [2, 3, 2, 1, 3, 0, 4] #[.int .i64 2, .int .i64 3, .int .i64 2, .int .i64 1, .int .i64 3, .int .i64 0, .int .i64 4] rfl (Nat.le_refl _) (by simp)
  have hA := (Below.refl w.heap.size w).alloc (Nat.le_refl _) (.cells #[.int .i64 2, .int .i64 3, .int .i64 2, .int .i64 1, .int .i64 3, .int .i64 0, .int .i64 4] 3)
  have hcA := h.below hA
  go_enter Try.func55, Try.ntmps55
  go_wp2_with fail
  refine (c_pick g K 24 _ hcA (by omega) (by omega)).mono ?_
  rintro e w1 ⟨x, rfl, hx, hc1, hk1⟩
  have hx24 : x < 24 := by omega
  obtain ⟨y, hy⟩ : ∃ y, y = x / 11 := ⟨_, rfl⟩
  have hy2 : y ≤ 2 := by omega
  have hyd : (x : Int) / 11 = (y : Int) := by omega
  have hl1 := (hlit.off hk1 (fun q hq e => by simp [Value.ownBlock] at hq; omega)).ints
  have hl2 := hl1.take (k := 5 + y) (by simp; omega)
  have hkA := ((kept0 hA).mono (G := fun k => k = g) fun _ f => f.elim).trans hk1
  replace hy := Lib.hid hy
  clear hl1 hlit
  go_wp2_with fail
  refine (c_among g (K + 2) _ ([2, 3, 2, 1, 3, 0, 4].take (5 + y)) _ hc1 (by omega) hl2 (by simp; omega) (by simp; omega) (by intro b off n c e; simp at e; omega)).mono ?_
  rintro e w2 ⟨n, rfl, hn, hc2, hk2⟩
  have hn4 : -1 ≤ n ∧ n ≤ 4 := by
    have := List.mem_of_mem_take hn
    simp at this
    omega
  have hkk := hkA.trans hk2
  go_wp2_with fail
  refine (c_codeOf g (K + 2 + 2) n _ hc2 (by omega) hn4).mono ?_
  rintro e w3 ⟨v3, xs, rfl, ho3, hl3, hc3, hk3⟩
  have hz := hkk.size
  go_wp2
  go_ret2
  exact ⟨n, v3, xs, rfl, hn4, ho3.mono hz, hl3, hc3.more (by omega), hkk.trans hk3⟩

theorem own_below {g : Nat} {w w1 w2 : World} (hA : Below w.heap.size w w1) (hk : KeptOff (fun k => k = g) w1 w2) (hg : w.heap.size ≤ g) : Below w.heap.size w w2 := hA.trans (hk.below (fun k e => by omega) hA.size)
set_option maxRecDepth 100000 in
theorem c_DrawIsCode (v : Value) (m : Nat) (w : World) (h : BytesV w v m) :
    Calls Try.prog 63 #[v] w fun e w' => ∃ n v' xs, e = .returned (.tuple #[.int .i64 n, v']) ∧ OwnI w' w.heap.size v' xs ∧ xs.length ≤ 17 ∧ Below w.heap.size w w' := by
  obtain ⟨ad, cap, rfl, hcap, hbr⟩ := id h
  have hcn := cur_new (cap := cap) hbr
  have hA := (Below.refl w.heap.size w).alloc (Nat.le_refl _) (.cells #[.slice ad m cap, .int .i64 0, .int .u64 0] 63)
  go_enter Try.func63, Try.ntmps63
  go_wp2_with fail
  refine (c_code9 w.heap.size 0 _ hcn (by omega)).mono ?_
  rintro e w1 ⟨n, v1, xs, rfl, -, ho, hl, -, hk⟩
  go_wp2
  go_ret2
  exact ⟨n, v1, xs, rfl, ho.mono (by simp), hl, own_below hA hk (Nat.le_refl _)⟩
theorem c_DrawCodeScores (v : Value) (m : Nat) (w : World) (h : BytesV w v m) :
    Calls Try.prog 22 #[v] w fun e w' => ∃ n v' xs, e = .returned (.tuple #[.int .i64 n, v']) ∧ OwnI w' w.heap.size v' xs ∧ xs.length ≤ 17 ∧ Below w.heap.size w w' := by
  obtain ⟨ad, cap, rfl, hcap, hbr⟩ := id h
  go_enter Try.func22, Try.ntmps22
  go_wp2_with fail
  refine (c_DrawIsCode _ m _ h).mono ?_
  rintro e w1 ⟨n, v1, xs, rfl, ho, hl, hb⟩
  go_wp2
  go_ret2
  exact ⟨n, v1, xs, rfl, ho, hl, hb⟩
set_option maxRecDepth 100000 in
theorem c_DrawBestCode (v : Value) (m : Nat) (w : World) (h : BytesV w v m) :
    Calls Try.prog 45 #[v] w fun e w' => ∃ n, e = .returned (.int .i64 n) ∧ (-1 ≤ n ∧ n ≤ 4) ∧ Below w.heap.size w w' := by
  obtain ⟨ad, cap, rfl, hcap, hbr⟩ := id h
  have hcn := cur_new (cap := cap) hbr
  have hA := (Below.refl w.heap.size w).alloc (Nat.le_refl _) (.cells #[.slice ad m cap, .int .i64 0, .int .u64 0] 63)
  have hA2 := (Below.refl (w.alloc (.cells #[.slice ad m cap, .int .i64 0, .int .u64 0] 63)).heap.size _).alloc (Nat.le_refl _) (.cells #[.int .i64 2, .int .i64 1, .int .i64 3, .int .i64 2, .int .i64 0, .int .i64 4, .int .i64 (-1)] 3)
  have hlit := (own_lit (w.alloc (.cells #[.slice ad m cap, .int .i64 0, .int .u64 0] 63)) 0 [2, 1, 3, 2, 0, 4, -1] #[.int .i64 2, .int .i64 1, .int .i64 3, .int .i64 2, .int .i64 0, .int .i64 4, .int .i64 (-1)] rfl (Nat.zero_le _) (by simp)).ints
  have hc2 := hcn.below hA2
  have hsz : (w.alloc (.cells #[.slice ad m cap, .int .i64 0, .int .u64 0] 63)).heap.size = w.heap.size + 1 := by simp
  rw [hsz] at hlit
  go_enter Try.func45, Try.ntmps45
  go_wp2_with fail
  refine (c_among w.heap.size 0 _ [2, 1, 3, 2, 0, 4, -1] _ hc2 (by omega) hlit (by simp) (by simp) (by intro b off n c e; simp at e; omega)).mono ?_
  rintro e w1 ⟨n, rfl, hn, -, hk⟩
  go_wp2
  go_ret
  exact ⟨n, rfl, by simp at hn; omega, own_below (hA.trans (hA2.mono (by omega))) hk (Nat.le_refl _)⟩
theorem c_DrawParityCode (v : Value) (m : Nat) (w : World) (h : BytesV w v m) :
    Calls Try.prog 10 #[v] w fun e w' => ∃ n, e = .returned (.int .i64 n) ∧ (-1 ≤ n ∧ n ≤ 4) ∧ Below w.heap.size w w' := by
  obtain ⟨ad, cap, rfl, hcap, hbr⟩ := id h
  go_enter Try.func10, Try.ntmps10
  go_wp2_with fail
  refine (c_DrawBestCode _ m _ h).mono ?_
  rintro e w1 ⟨n, rfl, hn, hb⟩
  go_wp2
  go_ret
  exact ⟨n, rfl, hn, hb⟩
set_option maxRecDepth 100000 in
theorem c_DrawBitCode (v : Value) (m : Nat) (w : World) (h : BytesV w v m) :
    Calls Try.prog 7 #[v] w fun e w' => ∃ n i, e = .returned (.tuple #[.int .i64 n, .int .i64 i]) ∧ (-1 ≤ n ∧ n ≤ 4) ∧ (-1 ≤ i ∧ i ≤ 4) ∧ Below w.heap.size w w' := by
  obtain ⟨ad, cap, rfl, hcap, hbr⟩ := id h
  have hcn := cur_new (cap := cap) hbr
  have hA := (Below.refl w.heap.size w).alloc (Nat.le_refl _) (.cells #[.slice ad m cap, .int .i64 0, .int .u64 0] 63)
  have hbA := h.below hA
  go_enter Try.func7, Try.ntmps7
  go_wp2_with fail
  refine (c_DrawBestCode _ m _ hbA).mono ?_
  rintro e w1 ⟨n, rfl, hn, hb1⟩
  have hc1 := hcn.below hb1
  go_wp2_with fail
  refine (c_pick w.heap.size 0 4 _ hc1 (by omega) (by omega)).mono ?_
  rintro e w2 ⟨x, rfl, hx, hc2, hk2⟩
  go_wp2_with fail
  refine (c_pick w.heap.size 2 24 _ hc2 (by omega) (by omega)).mono ?_
  rintro e w3 ⟨y, rfl, hy, hc3, hk3⟩
  have hx4 : x < 4 := by omega
  have hy24 : y < 24 := by omega
  obtain ⟨z, hz⟩ : ∃ z, z = y / 23 := ⟨_, rfl⟩
  have hz1 : z ≤ 1 := by omega
  have hzd : (y : Int) / 23 = (z : Int) := by omega
  replace hz := Lib.hid hz
  go_wp2
  go_ret2
  exact ⟨n, (x : Int) - z, rfl, hn, by omega, own_below (hA.trans (hb1.mono (by simp))) (hk2.trans hk3) (Nat.le_refl _)⟩
end Go.Proofs.Ytjeaeninpmaoiaa
