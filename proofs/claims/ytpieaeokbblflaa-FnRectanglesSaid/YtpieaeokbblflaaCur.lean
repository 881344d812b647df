/- Numbers that are drawn from bytes; conditions: none. -/
import Derived.Test.YtpieaeokbblflaaRk
import Derived.BigQuiet
namespace Go.Proofs.Ytpieaeokbblflaa
open Go.RowKit

/-- bytes in memory, without their values -/
def BytesR (w : World) (ad : Option Addr) (n : Nat) : Prop := n ≤ 9223372036854775807 ∧ ∀ i, i < n → ∃ b off x, ad = some ⟨b, off, none⟩ ∧ b < w.heap.size ∧ w.cell? ⟨b, off + i, none⟩ = some (.int .u8 x) ∧ 0 ≤ x ∧ x < 256
theorem BytesR.off {w w' : World} {ad : Option Addr} {n : Nat} {F : Nat → Prop} (h : BytesR w ad n) (hk : KeptOff F w w') (hF : 0 < n → ∀ b off, ad = some ⟨b, off, none⟩ → ¬ F b) : BytesR w' ad n := by
  refine ⟨h.1, fun i hi => ?_⟩
  obtain ⟨b, off, x, e, hb, hc, h0⟩ := h.2 i hi
  refine ⟨b, off, x, e, Nat.lt_of_lt_of_le hb hk.size, ?_, h0⟩
  rw [← hc]
  unfold World.cell?
  rw [hk.block b hb (hF (by omega) b off e)]
theorem BytesR.below {w w' : World} {ad : Option Addr} {n : Nat} (h : BytesR w ad n) (hb : Below w.heap.size w w') : BytesR w' ad n := h.off (kept0 hb) fun _ _ _ _ f => f
/-- a slice of bytes -/
def BytesV (w : World) (v : Value) (n : Nat) : Prop := ∃ ad cap, v = .slice ad n cap ∧ (n ≤ cap ∧ cap ≤ 9223372036854775807) ∧ BytesR w ad n
theorem BytesV.below {w w' : World} {v : Value} {n : Nat} (h : BytesV w v n) (hb : Below w.heap.size w w') : BytesV w' v n := by
  obtain ⟨ad, cap, rfl, hc, h⟩ := h
  exact ⟨ad, cap, rfl, hc, h.below hb⟩
theorem kept_later {F : Nat → Prop} {a b c : World} (h : KeptOff F a b) (k : Below b.heap.size b c) : KeptOff F a c := h.trans ((kept0 k).mono fun _ f => f.elim)
theorem keptOfB {B : Nat} {w w' : World} (h : Below B w w') (hs : w.heap.size ≤ w'.heap.size) : KeptOff (fun k => B ≤ k) w w' := ⟨h.os, h.tape, h.output, hs, fun k _ hf => h.block k (by omega)⟩
/-- a cursor: its block, the bytes that it reads (laid before it), a bound of its place -/
def CurR (w : World) (g K : Nat) : Prop := ∃ ad n cap k s, w.heap[g]? = some (.cells #[.slice ad n cap, .int .i64 ((k : Nat) : Int), .int .u64 s] 109 (0, 0)) ∧ k ≤ K ∧ 0 ≤ s ∧ BytesR w ad n ∧ (0 < n → ∀ b off, ad = some ⟨b, off, none⟩ → b < g)
theorem CurR.lt {w : World} {g K : Nat} (h : CurR w g K) : g < w.heap.size := by
  obtain ⟨_, _, _, _, _, h, -⟩ := h
  exact (Array.getElem?_eq_some_iff.1 h).1
theorem CurR.off {w w' : World} {g K : Nat} {F : Nat → Prop} (h : CurR w g K) (hk : KeptOff F w w') (hF : ∀ k, F k → g < k) : CurR w' g K := by
  obtain ⟨ad, n, cap, k, s, hb, h1, h2, h3, h4⟩ := h
  have hl := (Array.getElem?_eq_some_iff.1 hb).1
  exact ⟨ad, n, cap, k, s, (hk.block g hl (fun f => by have := hF g f; omega)).trans hb, h1, h2, h3.off hk (fun hn b off e f => by have := h4 hn b off e; have := hF b f; omega), h4⟩
theorem CurR.below {w w' : World} {g K : Nat} (h : CurR w g K) (hb : Below w.heap.size w w') : CurR w' g K := h.off (kept0 hb) fun _ f => f.elim
theorem CurR.more {w : World} {g K L : Nat} (h : CurR w g K) (hl : K ≤ L) : CurR w g L := by
  obtain ⟨ad, n, cap, k, s, hb, h1, h2⟩ := h
  exact ⟨ad, n, cap, k, s, hb, by omega, h2⟩
/-- a new cursor -/
theorem cur_new {w : World} {ad : Option Addr} {n cap : Nat} (h : BytesR w ad n) : CurR (w.alloc (.cells #[.slice ad n cap, .int .i64 0, .int .u64 0] 109)) w.heap.size 0 :=
  ⟨ad, n, cap, 0, 0, heap_alloc_at rfl, Nat.le_refl _, Int.le_refl _, h.below ((Below.refl _ _).alloc (Nat.le_refl _) _), fun hn b off e => by
    obtain ⟨b', off', x, e', hb, -⟩ := h.2 0 hn
    rw [e] at e'; cases e'; exact hb⟩
theorem blk3c {w : World} {b : Nat} {v1 v2 v3 : Value} {t : TypeId} (h : w.heap[b]? = some (.cells #[v1, v2, v3] t (0, 0))) :
    (w.cell? ⟨b, 0, none⟩ = some v1 ∧ w.cell? ⟨b, 1, none⟩ = some v2 ∧ w.cell? ⟨b, 2, none⟩ = some v3) ∧ (w.frozen? ⟨b, 0, none⟩ = false ∧ w.frozen? ⟨b, 1, none⟩ = false ∧ w.frozen? ⟨b, 2, none⟩ = false) := by
  refine ⟨⟨?_, ?_, ?_⟩, ?_, ?_, ?_⟩ <;> simp [World.cell?, World.frozen?, h]

theorem u64_nonneg (z : Int) : 0 ≤ IntKind.u64.wrap z := by
  show 0 ≤ z % _
  exact Int.emod_nonneg _ (by decide)
theorem u64_and255 (z : Int) : ∃ x : Nat, x < 256 ∧ bits .and .u64 z 255 = (x : Int) := by
  have h1 : bits .and .u64 z 255 = IntKind.u64.wrap ((BitVec.ofInt 64 z &&& BitVec.ofInt 64 255).toNat : Int) := rfl
  have h2 : (BitVec.ofInt 64 z &&& BitVec.ofInt 64 255).toNat < 256 := by
    rw [BitVec.toNat_and]
    exact Nat.and_lt_two_pow (n := 8) _ (by decide)
  refine ⟨_, h2, ?_⟩
  rw [h1]
  have : ∀ y : Nat, y < 256 → IntKind.u64.wrap (y : Int) = (y : Int) := by decide +kernel
  exact this _ h2
/-- the cursor behind a step -/
theorem cur_stepped {w : World} {g K k n cap : Nat} {ad : Option Addr} {s s2 : Int} (hb : w.heap[g]? = some (.cells #[.slice ad n cap, .int .i64 ((k : Nat) : Int), .int .u64 s] 109 (0, 0))) (hk : k ≤ K) (hr : BytesR w ad n) (hne : 0 < n → ∀ b off, ad = some ⟨b, off, none⟩ → b < g) (hs : 0 ≤ s2) (m : Nat) :
    (((w.drewN m).setCell ⟨g, 1, none⟩ (.int .i64 ((k : Int) + 1))).setCell ⟨g, 2, none⟩ (.int .u64 s2)).heap[g]? = some (.cells #[.slice ad n cap, .int .i64 ((k : Int) + 1), .int .u64 s2] 109 (0, 0)) ∧
    KeptOff (fun k => k = g) w (((w.drewN m).setCell ⟨g, 1, none⟩ (.int .i64 ((k : Int) + 1))).setCell ⟨g, 2, none⟩ (.int .u64 s2)) ∧ CurR (((w.drewN m).setCell ⟨g, 1, none⟩ (.int .i64 ((k : Int) + 1))).setCell ⟨g, 2, none⟩ (.int .u64 s2)) g (K + 1) := by
  have h0 : (w.drewN m).heap[g]? = some (.cells #[.slice ad n cap, .int .i64 ((k : Nat) : Int), .int .u64 s] 109 (0, 0)) := blk_later (below_drewN (Below.refl w.heap.size w) m) hb
  have h2 : (((w.drewN m).setCell ⟨g, 1, none⟩ (.int .i64 ((k : Int) + 1))).setCell ⟨g, 2, none⟩ (.int .u64 s2)).heap[g]? = some (.cells #[.slice ad n cap, .int .i64 ((k : Int) + 1), .int .u64 s2] 109 (0, 0)) := blk_set (blk_set h0)
  have hK : KeptOff (fun k => k = g) w (((w.drewN m).setCell ⟨g, 1, none⟩ (.int .i64 ((k : Int) + 1))).setCell ⟨g, 2, none⟩ (.int .u64 s2)) :=
    (((kept0 (below_drewN (Below.refl w.heap.size w) m)).mono fun _ f => f.elim).trans (keptOff_set _ g 1 _)).trans (keptOff_set _ g 2 _)
  exact ⟨h2, hK, ad, n, cap, k + 1, s2, h2, by omega, hs, hr.off hK (fun hn b off e f => by have := hne hn b off e; omega), hne⟩

set_option maxRecDepth 100000 in
set_option maxHeartbeats 4000000 in
theorem c_next (g K : Nat) (w : World) (h : CurR w g K) (hK : K < 1073741824) :
    Calls Try.prog 138 #[.pointer (some ⟨g, 0, none⟩)] w fun e w' => ∃ x : Nat, e = .returned (.int .i64 (x : Int)) ∧ x < 256 ∧ CurR w' g (K + 1) ∧ KeptOff (fun k => k = g) w w' := by
  obtain ⟨ad, n, cap, k, s, hb, hk, hs, hr, hne⟩ := h
  obtain ⟨⟨c0, c1, c2⟩, f0, f1, f2⟩ := blk3c hb
  have hn := hr.1
  replace hr := Lib.hid hr
  replace hne := Lib.hid hne
  by_cases hlt : k < n
  · have hd : decide ((k : Int) < (n : Int)) = true := by simp; omega
    have hd2 : decide ((k : Int) + 1 ≤ (n : Int)) = true := by simp; omega
    obtain ⟨b, off, x, rfl, hbl, hcell, hx0, hx1⟩ := hr.out.2 k hlt
    obtain ⟨xn, rfl⟩ := Int.eq_ofNat_of_zero_le hx0
    go_enter Try.func138, Try.ntmps138
    go_wp2_with fail
    go_quiet (fail)
    obtain ⟨m1, hm1⟩ : ∃ m1, m1 = nq := ⟨_, rfl⟩
    rw [← hm1]
    clear hm1
    all_goals go_wp2_with fail
    all_goals go_quiet (fail)
    all_goals go_wp2_with fail
    obtain ⟨s2, hs2⟩ : ∃ s2, s2 = IntKind.u64.wrap (IntKind.u64.wrap (IntKind.u64.wrap (s * 6364136223846793005) + (xn : Int)) + 462197) := ⟨_, rfl⟩
    rw [← hs2]
    have hs3 : 0 ≤ s2 := hs2 ▸ u64_nonneg _
    clear hs2
    obtain ⟨q1, q2, q3⟩ := cur_stepped hb hk hr.out hne.out hs3 (m1 + nq)
    obtain ⟨w2, hw2⟩ : ∃ z, z = ((w.drewN (m1 + nq)).setCell ⟨g, 1, none⟩ (.int .i64 ((k : Int) + 1))).setCell ⟨g, 2, none⟩ (.int .u64 s2) := ⟨_, rfl⟩
    rw [← hw2] at q1 q2 q3 ⊢
    clear hw2 c0 c1 c2 f0 f1 f2 hcell
    obtain ⟨⟨c0, c1, c2⟩, f0, f1, f2⟩ := blk3c q1
    go_quiet (fail)
    all_goals go_wp2
    all_goals go_ret
    all_goals exact ⟨xn, rfl, by omega, q3.below (below_drewN (Below.refl _ _) _), kept_later q2 (below_drewN (Below.refl _ _) _)⟩
  · have hd : decide ((k : Int) < (n : Int)) = false := by simp; omega
    have hd2 : decide ((k : Int) + 1 ≤ (n : Int)) = false := by simp; omega
    go_enter Try.func138, Try.ntmps138
    go_wp2_with fail
    go_quiet (fail)
    all_goals go_wp2_with fail
    obtain ⟨s2, hs2⟩ : ∃ s2, s2 = IntKind.u64.wrap (IntKind.u64.wrap (IntKind.u64.wrap (s * 6364136223846793005)) + 462197) := ⟨_, rfl⟩
    rw [← hs2]
    have hs3 : 0 ≤ s2 := hs2 ▸ u64_nonneg _
    clear hs2
    obtain ⟨q1, q2, q3⟩ := cur_stepped hb hk hr.out hne.out hs3 nq
    obtain ⟨w2, hw2⟩ : ∃ z, z = ((w.drewN nq).setCell ⟨g, 1, none⟩ (.int .i64 ((k : Int) + 1))).setCell ⟨g, 2, none⟩ (.int .u64 s2) := ⟨_, rfl⟩
    rw [← hw2] at q1 q2 q3 ⊢
    clear hw2 c0 c1 c2 f0 f1 f2
    obtain ⟨⟨c0, c1, c2⟩, f0, f1, f2⟩ := blk3c q1
    obtain ⟨x, hx1, hx2⟩ := u64_and255 (s2 / 1099511627776)
    go_quiet (fail)
    all_goals go_wp2
    all_goals go_ret
    all_goals exact ⟨x, rfl, hx1, q3.below (below_drewN (Below.refl _ _) _), kept_later q2 (below_drewN (Below.refl _ _) _)⟩

theorem emod_nat (z n : Int) (hn : 1 < n) : ∃ x : Nat, z % n = (x : Int) ∧ (x : Int) < n := by
  have h1 := Int.emod_nonneg z (show n ≠ 0 by omega)
  have h2 := Int.emod_lt_of_pos z (show 0 < n by omega)
  obtain ⟨x, hx⟩ := Int.eq_ofNat_of_zero_le h1
  exact ⟨x, hx, by omega⟩
theorem c_pick (g K : Nat) (n : Int) (w : World) (h : CurR w g K) (hK : K < 1073741000) (hn : n < 65536) :
    Calls Try.prog 110 #[.pointer (some ⟨g, 0, none⟩), .int .i64 n] w fun e w' => ∃ x : Nat, e = .returned (.int .i64 (x : Int)) ∧ ((x : Int) < n ∨ x = 0) ∧ CurR w' g (K + 2) ∧ KeptOff (fun k => k = g) w w' := by
  by_cases h1 : n ≤ 1
  · go_enter Try.func110, Try.ntmps110
    go_wp2
    go_ret
    exact ⟨0, rfl, .inr rfl, h.more (by omega), KeptOff.refl _ _⟩
  · by_cases h2 : n > 200
    · go_enter Try.func110, Try.ntmps110
      go_wp2_with fail
      refine (c_next g K w h (by omega)).mono ?_
      rintro e w1 ⟨x, rfl, hx, q1, q2⟩
      go_wp2_with fail
      refine (c_next g (K + 1) w1 q1 (by omega)).mono ?_
      rintro e w2 ⟨y, rfl, hy, r1, r2⟩
      obtain ⟨z, hz1, hz2⟩ := emod_nat ((x : Int) * 256 + y) n (by omega)
      replace hz1 := Lib.hid hz1
      go_wp2
      go_ret
      exact ⟨z, by rw [← hz1.out]; rfl, .inl hz2, r1, q2.trans r2⟩
    · go_enter Try.func110, Try.ntmps110
      go_wp2_with fail
      refine (c_next g K w h (by omega)).mono ?_
      rintro e w1 ⟨x, rfl, hx, q1, q2⟩
      obtain ⟨z, hz1, hz2⟩ := emod_nat (x : Int) n (by omega)
      replace hz1 := Lib.hid hz1
      go_wp2
      go_ret
      exact ⟨z, by rw [← hz1.out]; rfl, .inl hz2, q1.more (by omega), q2⟩

theorem c_one (g K : Nat) (n : Int) (w : World) (h : CurR w g K) (hK : K < 1073741000) (hn : n < 65536) :
    Calls Try.prog 103 #[.pointer (some ⟨g, 0, none⟩), .int .i64 n] w fun e w' => ∃ b, e = .returned (.bool b) ∧ CurR w' g (K + 2) ∧ KeptOff (fun k => k = g) w w' := by
  go_enter Try.func103, Try.ntmps103
  go_wp2_with fail
  refine (c_pick g K n w h hK hn).mono ?_
  rintro e w1 ⟨x, rfl, hx, q1, q2⟩
  by_cases h0 : x = 0
  · subst h0
    go_wp2
    go_ret
    exact ⟨_, rfl, q1, q2⟩
  · have hd : ((x : Int) == 0) = false := by simp; omega
    go_wp2
    go_ret
    exact ⟨_, rfl, q1, q2⟩

theorem c_among (g K : Nat) (v : Value) (l : List Int) (w : World) (h : CurR w g K) (hK : K < 1073741000) (hl : Ints w v l) (h0 : 0 < l.length) (h1 : l.length < 65536) (hv : ∀ b off n c, v = .slice (some ⟨b, off, none⟩) n c → b ≠ g) :
    Calls Try.prog 109 #[.pointer (some ⟨g, 0, none⟩), v] w fun e w' => ∃ x, e = .returned (.int .i64 x) ∧ x ∈ l ∧ CurR w' g (K + 2) ∧ KeptOff (fun k => k = g) w w' := by
  obtain ⟨ad, cap, rfl, hlen, hat⟩ := hl.out
  go_enter Try.func109, Try.ntmps109
  go_wp2_with fail
  refine (c_pick g K (l.length : Int) w h hK (by omega)).mono ?_
  rintro e w1 ⟨x, rfl, hx, q1, q2⟩
  have hxl : x < l.length := by omega
  obtain ⟨b, off, rfl, hb, hcell⟩ := hl.at x hxl
  have hne := hv b off _ _ rfl
  have hc1 := (show w1.cell? ⟨b, off + x, none⟩ = w.cell? ⟨b, off + x, none⟩ by unfold World.cell?; rw [q2.block b hb hne]).trans hcell
  have hb1 : b < w1.heap.size := Nat.lt_of_lt_of_le hb q2.size
  go_wp2
  go_ret
  exact ⟨_, rfl, List.getElem_mem hxl, q1, q2⟩
end Go.Proofs.Ytpieaeokbblflaa
