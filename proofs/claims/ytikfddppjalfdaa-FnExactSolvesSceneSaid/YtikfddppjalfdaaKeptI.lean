/- Which contexts keep an assignment, and which it picks from: the program's side; conditions: none. -/
import Derived.Test.YtikfddppjalfdaaKept
import Derived.Test.YtikfddppjalfdaaAppG
import Derived.Test.YtikfddppjalfdaaOnes
import Derived.Laws.BitsAllLaws
namespace Go.Proofs.Ytikfddppjalfdaa
open Go.RowKit

theorem info_uint : (Try.prog.info? 82).map (fun i => (i.zero, i.size, i.bytes)) = some (some (.int .u64 0), 1, 8) := by kernel_rfl

/-- a list of sets of bits, in a block of the call's own -/
def uv (x : Nat) : Value := .int .u64 (x : Int)
def OwnUs (w : World) (B : Nat) (v : Value) (xs : List Nat) : Prop := OwnS w B 82 v (xs.map uv)
theorem OwnUs.below {w w' : World} {B : Nat} {v : Value} {xs : List Nat} (h : OwnUs w B v xs) (hb : Below w.heap.size w w') : OwnUs w' B v xs := OwnS.below h hb (Nat.le_refl _)
theorem OwnUs.mono {w : World} {B B' : Nat} {v : Value} {xs : List Nat} (h : OwnUs w B v xs) (hB : B' ≤ B) : OwnUs w B' v xs := OwnS.mono h hB
theorem OwnUs.out {w : World} {B : Nat} {v : Value} {xs : List Nat} (h : OwnUs w B v xs) : ∃ a cap, v = .slice a xs.length cap ∧ xs.length ≤ 9223372036854775807 := by
  obtain ⟨a, cap, rfl, hl, -⟩ := OwnS.sl h
  exact ⟨a, cap, by simp, by have := hl.1; have := hl.2; simp only [List.length_map] at *; omega⟩
theorem OwnUs.at {w : World} {B : Nat} {a : Option Addr} {n cap : Nat} {xs : List Nat} (h : OwnUs w B (.slice a n cap) xs) (j : Nat) (hj : j < xs.length) : ∃ b off, a = some ⟨b, off, none⟩ ∧ b < w.heap.size ∧ w.cell? ⟨b, off + j, none⟩ = some (.int .u64 (xs[j] : Int)) := by
  obtain ⟨a', cap', e, hl, hc⟩ := OwnS.sl h
  cases e
  exact hc j _ (by simp [List.getElem?_eq_getElem hj, uv])
theorem ownUs_empty (w : World) (B : Nat) (hB : B ≤ w.heap.size) : OwnUs (w.alloc (.cells #[] 82)) B (.slice (some ⟨w.heap.size, 0, none⟩) 0 0) [] :=
  ⟨by simpa using World.ownsRow_made w #[] 0 hB (Nat.zero_le _) (by simp), by simp⟩
theorem wp_append_uint {ops : Array Oper} {rest : List Oper} {o : Oper} {a : Act} {Q : Exit → Act → World → Prop} (w : World) (n : Nat) (hgd : o.guard = none) (s x : Operand)
    (ho : o.op = .call { callee := .builtin .append, args := #[s, x], argTypes := #[96, 96] }) (B : Nat) (v : Value) (xs : List Nat) (hs : a.eval s = v) (hown : OwnUs w B v xs)
    {g : Nat} (hx : a.eval x = .slice (some ⟨g, 0, none⟩) 1 1) (hg : g = w.heap.size) (hlen : xs.length < 1099511627776) (hB : B ≤ w.heap.size)
    (h : ∀ v' w', OwnUs w' B v' (xs ++ [n]) → w.grownBy w' v.ownBlock → Below B w w' → v' ≠ .slice none 0 0 → wpList Try.prog ops Q rest (a.put o.dst v') w') :
    wpList Try.prog ops Q (o :: rest) a (w.alloc (.cells #[.int .u64 (n : Int)] 82)) := by
  subst hg
  obtain ⟨i0, hi, hz0, hz1, hz2⟩ := info_parts info_uint
  have hal := World.grownBy_alloc w (.cells #[.int .u64 (n : Int)] 82) none
  refine wpList_append_own _ hgd s x 96 ho B 82 i0 (.int .u64 0) 1 8 Try.underlying96 hi hz0 hz1 hz2 rfl (by decide) v xs.length (xs.map uv) hs (by simpa using hown.1.alloc _) ⟨w.heap.size, 0, none⟩ 1 1 [.int .u64 (n : Int)] hx rfl ?_ ?_
    (by unfold maxLen; omega) (by omega) (by simp; omega) fun v' w' h1 h2 h3 => ?_
  · intro j u hu
    rw [Addr.add_lit, World.cell?_alloc_at _ _ _ _ rfl]
    cases j with
    | zero => simpa using hu
    | succ j => simp at hu
  · intro u hu; simp at hu; subst hu; rfl
  · have hgr := grown_trans hal h2
    refine h v' w' ⟨by simpa [uv] using h1, by simp; omega⟩ hgr ((Below.refl _ _).grown hgr hB fun k hk => (hown.lt k hk).1) fun e => ?_
    have := (h3.1 e).2
    simp at this

theorem wrap_pow (q : Nat) (hq : q < 12) : IntKind.u64.wrap ((2 : Int) ^ q) = ((2 ^ q : Nat) : Int) := by
  have : ∀ q : Nat, q < 12 → IntKind.u64.wrap ((2 : Int) ^ q) = ((2 ^ q : Nat) : Int) := by decide +kernel
  exact this q hq
theorem or_shl (m q : Nat) (hm : m < 4096) (hq : q < 12) : bits BinOp.or IntKind.u64 (m : Int) (IntKind.u64.wrap ((2 : Int) ^ q)) = ((m ||| 2 ^ q : Nat) : Int) := by
  have h2 : 2 ^ q ≤ 2 ^ 12 := Nat.pow_le_pow_right (by decide) (by omega)
  rw [wrap_pow q hq, u64_or_nat _ _ (by omega) (by omega)]

theorem or_shl2 (m q k : Nat) (hm : m < 4096) (hq : q < 2) (hk : k < 12) : bits BinOp.or IntKind.u64 (m : Int) (IntKind.u64.wrap ((q : Int) * 2 ^ k)) = ((m ||| q <<< k : Nat) : Int) := by
  have h : ∀ q : Nat, q < 2 → ∀ k : Nat, k < 12 → IntKind.u64.wrap ((q : Int) * 2 ^ k) = ((q <<< k : Nat) : Int) ∧ q <<< k ≤ 4096 := by decide +kernel
  obtain ⟨h1, h2⟩ := h q hq k hk
  rw [h1, u64_or_nat _ _ (by omega) (by omega)]
theorem and_nat (m s : Nat) (hm : m < 4096) (hs : s < 4096) : bits BinOp.and IntKind.u64 (m : Int) (s : Int) = ((m &&& s : Nat) : Int) := u64_and_nat _ _ (by omega) (by omega)

def masksL (s : SceneD) : List Nat := s.c.map fun c => maskN c 0

set_option maxRecDepth 100000 in
set_option maxHeartbeats 2000000 in
theorem c_masks (v : Value) (s : SceneD) (w : World) (h : SceneR w v s) (hs : sceneB s = true) :
    Calls Try.prog 109 #[v] w fun e w' => ∃ v', e = .returned v' ∧ OwnUs w' w.heap.size v' (masksL s) ∧ Below w.heap.size w w' := by
  obtain ⟨v1, v2, rfl, hc, hsu⟩ := id h
  obtain ⟨a1, k1, rfl, l1⟩ := hc.out
  obtain ⟨a2, k2, rfl, l2, -⟩ := hsu.out
  obtain ⟨n10, -, -⟩ := scene_len hs
  have hX : ∀ k (hk : k < s.c.length), (∀ e ∈ s.c[k], 0 ≤ e ∧ e < 12) ∧ s.c[k].length ≤ 12 := by
    intro k hk
    obtain ⟨n, e, hn⟩ := scene_n hs
    have h1 := (scene_ctx hs k hk).2
    rw [e] at h1
    refine ⟨fun q hq => ?_, Nat.le_trans (risB_len h1) hn⟩
    have := risB_mem h1 q hq
    omega
  replace hX := Lib.hid hX
  replace hs := Lib.hid hs
  have hA := (Below.refl w.heap.size w).alloc (Nat.le_refl _) (.cells #[.int .i64 s.n, .slice a1 s.c.length k1, .slice a2 s.s.length k2] 50)
  go_enter Try.func109, Try.ntmps109
  go_wp2_with fail
  go_loopw [3, 13] (fun v j wr => ∃ k : Nat, k ≤ s.c.length ∧ j = .int .i64 k ∧ OwnUs wr w.heap.size v ((s.c.take k).map fun c => maskN c 0) ∧ Below w.heap.size w wr) (fun _ j _ => s.c.length - (intOf j).toNat)
  case atStart => exact ⟨0, Nat.zero_le _, rfl, (by have h := ownUs_empty (w.alloc (.cells #[.int .i64 s.n, .slice a1 s.c.length k1, .slice a2 s.s.length k2] 50)) w.heap.size (by simp); simp only [World.size_alloc] at h; simpa using h), hA.alloc (by simp) _⟩
  case round =>
    obtain ⟨k, hk, rfl, hown, hB⟩ := hrel
    by_cases hlt : k < s.c.length
    · obtain ⟨wo, rfl⟩ : ∃ wo : World, wo = wr := ⟨_, rfl⟩
      obtain ⟨bl, off, a0, c0, rfl, hb, hcell, hi⟩ := (hc.below hB).at k hlt
      obtain ⟨X1, X2⟩ := hX.out k hlt
      obtain ⟨c, hcx⟩ : ∃ c, c = s.c[k] := ⟨_, rfl⟩
      rw [← hcx] at hcell hi X1 X2
      replace hcx := Lib.hid hcx
      replace X1 := Lib.hid X1
      have hd : decide ((k : Int) < (s.c.length : Int)) = true := by simp; omega
      go_wp2
      go_loop [6, 19] (fun m i => ∃ j : Nat, j ≤ c.length ∧ i = .int .i64 j ∧ m = .int .u64 ((maskN (c.take j) 0 : Nat) : Int)) (fun _ i => c.length - (intOf i).toNat)
      case atStart => exact ⟨0, Nat.zero_le _, rfl, rfl⟩
      case round =>
        obtain ⟨j, hj, rfl, rfl⟩ := hrel
        by_cases hltj : j < c.length
        · obtain ⟨bi, oi, rfl, hbi, hcelli⟩ := hi.at j hltj
          obtain ⟨e0, e1⟩ := X1.out c[j] (List.getElem_mem hltj)
          obtain ⟨q, hq⟩ := Int.eq_ofNat_of_zero_le e0
          have hq12 : q < 12 := by omega
          rw [hq] at hcelli
          have hm : maskN (c.take j) 0 < 2 ^ 12 := maskN_lt _ _ 12 (by decide) fun e he => X1.out e (List.mem_of_mem_take he)
          have hm : maskN (c.take j) 0 < 4096 := hm
          clear e0 e1
          replace hq := Lib.hid hq
          have hF : Hid (((maskN (c.take (j + 1)) 0 : Nat) : Int) = bits BinOp.or IntKind.u64 (maskN (c.take j) 0 : Int) (IntKind.u64.wrap ((2 : Int) ^ q))) := Lib.hid (by
            rw [or_shl _ q hm hq12, List.take_succ_eq_append_getElem hltj, maskN_snoc, hq.out]; rfl)
          go_wp2
          go_round
          case rel => exact ⟨j + 1, by omega, by go_num, by rw [hF.out]⟩
          case measure => simp [intOf]; omega
        · obtain rfl : j = c.length := by omega
          have hF : Hid ((s.c.take (k + 1)).map (fun c => maskN c 0) = (s.c.take k).map (fun c => maskN c 0) ++ [maskN c 0]) := Lib.hid (by
            rw [List.take_succ_eq_append_getElem hlt, List.map_append, hcx.out]; simp)
          go_wp2_with (at_builtin; refine wp_append_uint _ _ rfl _ _ rfl w.heap.size _ _ rfl hown rfl (by first | rfl | simp) (by simp; omega) hB.size ?_; intro v' w2 hown2 _ hB2 _)
          rw [← hF.out] at hown2
          go_roundw
          case rel => exact ⟨k + 1, by omega, by go_num, hown2, hB.trans hB2⟩
          case measure => simp [intOf]; omega
    · obtain rfl : k = s.c.length := by omega
      go_wp2
      go_ret
      exact ⟨_, rfl, by unfold masksL; simpa using hown, hB⟩

set_option maxHeartbeats 1000000 in
theorem c_setOf (v : Value) (l : List Int) (w : World) (h : Ints w v l) (hl12 : l.length ≤ 12) (h1 : ∀ x ∈ l, 0 ≤ x ∧ x ≤ 1) :
    Calls Try.prog 88 #[v] w fun e w' => e = .returned (.int .u64 (setN l 0 0 : Int)) ∧ w = w' := by
  obtain ⟨ad, cap, rfl, hl, -⟩ := h.out
  have h01 : ∀ x ∈ l, x = 0 ∨ x = 1 := fun x hx => by have := h1 x hx; omega
  replace h1 := Lib.hid h1
  replace h01 := Lib.hid h01
  go_enter Try.func88, Try.ntmps88
  go_wp2
  go_loop [3, 8] (fun m i => ∃ k : Nat, k ≤ l.length ∧ i = .int .i64 k ∧ m = .int .u64 ((setN (l.take k) 0 0 : Nat) : Int)) (fun _ i => l.length - (intOf i).toNat)
  case atStart => exact ⟨0, Nat.zero_le _, rfl, rfl⟩
  case round =>
    obtain ⟨k, hk, rfl, rfl⟩ := hrel
    by_cases hlt : k < l.length
    · obtain ⟨bl, off, rfl, hb, hcell⟩ := h.at k hlt
      have hm : setN (l.take k) 0 0 < 4096 := setN_lt _ _ _ 12 (by decide) (fun x hx => h01.out x (List.mem_of_mem_take hx)) (by simp; omega)
      obtain ⟨e0, e1⟩ := h1.out l[k] (List.getElem_mem hlt)
      obtain ⟨q, hq⟩ := Int.eq_ofNat_of_zero_le e0
      have hq2 : q < 2 := by omega
      rw [hq] at hcell
      replace hq := Lib.hid hq
      clear e0 e1
      have hF : Hid (((setN (l.take (k + 1)) 0 0 : Nat) : Int) = bits BinOp.or IntKind.u64 (setN (l.take k) 0 0 : Int) (IntKind.u64.wrap ((q : Int) * 2 ^ k))) := Lib.hid (by
        rw [or_shl2 _ q k hm hq2 (by omega), List.take_succ_eq_append_getElem hlt, setN_snoc, hq.out]; simp [Nat.min_eq_left (Nat.le_of_lt hlt)])
      go_wp2
      go_round
      case rel => exact ⟨k + 1, by omega, by go_num, by rw [hF.out]⟩
      case measure => simp [intOf]; omega
    · obtain rfl : k = l.length := by omega
      go_wp2
      go_ret
      exact ⟨by simp, rfl⟩

theorem c_isAssignment (v u : Value) (s : SceneD) (asg : List Int) (w : World) (h : SceneR w v s) (g : Ints w u asg) :
    Calls Try.prog 86 #[v, u] w fun e w' => e = .returned (.bool (asgB s asg)) ∧ Below w.heap.size w w' := by
  obtain ⟨v1, v2, rfl, hc, hsu⟩ := id h
  obtain ⟨a1, k1, rfl, l1⟩ := hc.out
  obtain ⟨a2, k2, rfl, l2, -⟩ := hsu.out
  have hA := (Below.refl w.heap.size w).alloc (Nat.le_refl _) (.cells #[.int .i64 s.n, .slice a1 s.c.length k1, .slice a2 s.s.length k2] 50)
  obtain ⟨ad2, cap2, rfl, hl2, -⟩ := g.out
  cases he : ((asg.length : Int) == s.n)
  · have hF : Hid (asgB s asg = false) := Lib.hid (by unfold asgB bitsB; rw [he]; rfl)
    go_enter Try.func86, Try.ntmps86
    go_wp2
    go_ret
    exact ⟨by rw [hF.out]; rfl, hA⟩
  · have hF : Hid (asgB s asg = asg.all (inB 0 1)) := Lib.hid (by unfold asgB bitsB; rw [he]; simp)
    go_enter Try.func86, Try.ntmps86
    go_wp2_with fail
    refine (c_allWithin _ asg _ _ _ (g.below hA)).mono ?_
    rintro e _ ⟨rfl, rfl⟩
    go_wp2
    go_ret
    exact ⟨by rw [hF.out]; rfl, hA⟩

theorem c_isAssignment_is (v u : Value) (s : SceneD) (asg : List Int) (b : Bool) (w : World) (h : SceneR w v s) (g : Ints w u asg) (hb : asgB s asg = b) :
    Calls Try.prog 86 #[v, u] w fun e w' => e = .returned (.bool b) ∧ Below w.heap.size w w' := by
  rw [← hb]
  exact c_isAssignment v u s asg w h g
/-- an assignment's set of bits -/
theorem asg_set {s : SceneD} {asg : List Int} (hs : sceneB s = true) (ha : (asg.length : Int) = s.n) (h1 : ∀ x ∈ asg, 0 ≤ x ∧ x ≤ 1) : asg.length ≤ 12 ∧ setN asg 0 0 < 4096 := by
  obtain ⟨n, e, hn⟩ := scene_n hs
  have : asg.length ≤ 12 := by omega
  exact ⟨this, setN_lt _ _ _ 12 (by decide) (fun x hx => by have := h1 x hx; omega) (by omega)⟩
theorem ones_kept {s : SceneD} {asg : List Int} (hs : sceneB s = true) (h1 : ∀ x ∈ asg, 0 ≤ x ∧ x ≤ 1) (k : Nat) (hk : k < s.c.length) : (ones 12 (maskN s.c[k] 0 &&& setN asg 0 0) : Int) = onesE s.c[k] asg ∧ maskN s.c[k] 0 < 4096 := by
  obtain ⟨n, e, hn⟩ := scene_n hs
  have h2 := (scene_ctx hs k hk).2
  have hm : ∀ q ∈ s.c[k], 0 ≤ q ∧ q < 12 := fun q hq => by have := risB_mem h2 q hq; omega
  exact ⟨ones_mask _ _ (risB_nodup h2) hm (fun x hx => by have := h1 x hx; omega), maskN_lt _ _ 12 (by decide) hm⟩

set_option maxRecDepth 100000 in
set_option maxHeartbeats 2000000 in
theorem c_kept (v : Value) (s : SceneD) (asg : List Int) (w : World) (h : SceneR w v s) (hs : sceneB s = true) (ha : (asg.length : Int) = s.n) (h1 : ∀ x ∈ asg, 0 ≤ x ∧ x ≤ 1) :
    Calls Try.prog 96 #[v, .int .u64 (setN asg 0 0 : Int)] w fun e w' => ∃ v', e = .returned v' ∧ OwnI w' w.heap.size v' (keptL s asg) ∧ Below w.heap.size w w' := by
  obtain ⟨v1, v2, rfl, hc, hsu⟩ := id h
  obtain ⟨a1, k1, rfl, l1⟩ := hc.out
  obtain ⟨a2, k2, rfl, l2, -⟩ := hsu.out
  have hA := (Below.refl w.heap.size w).alloc (Nat.le_refl _) (.cells #[.int .i64 s.n, .slice a1 s.c.length k1, .slice a2 s.s.length k2] 50)
  obtain ⟨n10, hsl, -⟩ := scene_len hs
  replace hsl := Lib.hid hsl
  obtain ⟨-, hst⟩ := asg_set hs ha h1
  have hO := ones_kept hs h1
  replace hO := Lib.hid hO
  have hml : Hid ((masksL s).length = s.c.length) := Lib.hid (by simp [masksL])
  replace hs := Lib.hid hs
  replace ha := Lib.hid ha
  replace h1 := Lib.hid h1
  obtain ⟨st, hst2⟩ : ∃ st, st = setN asg 0 0 := ⟨_, rfl⟩
  rw [← hst2] at hst ⊢
  replace hst2 := Lib.hid hst2
  go_enter Try.func96, Try.ntmps96
  go_wp2_with fail
  refine (c_masks _ s _ (h.below (hA.alloc (by simp) _)) hs.out).mono ?_
  rintro e w1 ⟨vm, rfl, hvm, hb1⟩
  obtain ⟨am, cm, rfl, hlm⟩ := hvm.out
  rw [hml.out] at hvm ⊢
  have hown0 := (by have h := own_empty (w.alloc (.cells #[.int .i64 s.n, .slice a1 s.c.length k1, .slice a2 s.s.length k2] 50)) (w.heap.size + 1) (by simp); simp only [World.size_alloc] at h; exact h : OwnI ((w.alloc (.cells #[.int .i64 s.n, .slice a1 s.c.length k1, .slice a2 s.s.length k2] 50)).alloc (.cells #[] 3)) (w.heap.size + 1) (.slice (some ⟨w.heap.size + 1, 0, none⟩) 0 0) [])
  replace hown0 := hown0.below hb1
  have pB : w1.heap[w.heap.size]? = some (.cells #[.int .i64 s.n, .slice a1 s.c.length k1, .slice a2 s.s.length k2] 50 (0, 0)) := blk_later hb1 (by rw [heap_alloc_old _ _ (by simp)]; exact heap_alloc_at rfl)
  have hall0 : Below w.heap.size w w1 := (hA.alloc (by simp) _).trans (hb1.mono (by simp; omega))
  have hz1 := hb1.size
  simp only [World.size_alloc] at hz1
  clear hb1
  go_wp2_with fail
  go_loopw [5, 12] (fun v j wr => ∃ k : Nat, k ≤ s.c.length ∧ j = .int .i64 k ∧ OwnI wr (w.heap.size + 1) v (placesL (keptAt s asg) k) ∧ Hid (∀ g, v.ownBlock = some g → g = w.heap.size + 1 ∨ w1.heap.size ≤ g) ∧ KeptOff (fun g => g = w.heap.size + 1) w1 wr) (fun _ j _ => s.c.length - (intOf j).toNat)
  case atStart => exact ⟨0, Nat.zero_le _, rfl, hown0, Lib.hid fun g e => by simp [Value.ownBlock] at e; omega, KeptOff.refl _ _⟩
  case round =>
    obtain ⟨k, hk, rfl, hown, hblk, hB⟩ := hrel
    have hsz := hB.size
    have pBw : wr.heap[w.heap.size]? = some (.cells #[.int .i64 s.n, .slice a1 s.c.length k1, .slice a2 s.s.length k2] 50 (0, 0)) := (hB.block _ (by omega) (by omega)).trans pB
    obtain ⟨⟨z0, z1, z2⟩, -⟩ := blk3 pBw
    have hall : Below w.heap.size w wr := hall0.trans (hB.below (fun g e => by omega) (by omega))
    have hvr : OwnUs wr _ (.slice am s.c.length cm) (masksL s) := OwnS.off hvm hB (fun g e e2 => by have := (OwnS.lt hvm g e).1; simp at this; omega)
    by_cases hlt : k < s.c.length
    · have hmk : k < (masksL s).length := by have := hml.out; omega
      obtain ⟨bm, om, rfl, hbm, cm1⟩ := hvr.at k hmk
      have e1 : (masksL s)[k] = maskN s.c[k] 0 := by simp [masksL]
      rw [e1] at cm1
      replace e1 := Lib.hid e1
      obtain ⟨O1, O2⟩ := hO.out k hlt
      rw [← hst2.out] at O1
      obtain ⟨x, hx⟩ : ∃ x, x = maskN s.c[k] 0 := ⟨_, rfl⟩
      rw [← hx] at cm1 O1 O2
      replace hx := Lib.hid hx
      obtain ⟨bs, os, rfl, hbs, hcell2⟩ := (hsu.below hall).at k (by have := hsl.out; omega)
      have hks : k < s.s.length := by have := hsl.out; omega
      have hand := and_nat x st O2 hst
      have hxl : x &&& st < 4096 := Nat.lt_of_le_of_lt Nat.and_le_left O2
      have hon := ones_le 12 (x &&& st)
      have eg : Hid (s.c.getD k [] = s.c[k]) := Lib.hid (by simp [List.getD, hlt])
      have eg2 : Hid (s.s.getD k 0 = s.s[k]) := Lib.hid (by rw [List.getD, List.getElem?_eq_getElem hks]; rfl)
      have hq : Hid (keptAt s asg k = ((ones 12 (x &&& st) : Int) % 2 == s.s[k])) := Lib.hid (by unfold keptAt; rw [eg.out, eg2.out, O1])
      replace O1 := Lib.hid O1
      have ht : Hid ((ones 12 (x &&& st) : Int).tmod 2 = (ones 12 (x &&& st) : Int) % 2) := Lib.hid (Int.tmod_eq_emod_of_nonneg (by omega))
      cases hy : ((ones 12 (x &&& st) : Int).tmod 2 == s.s[k])
      · have hy2 : ((ones 12 (x &&& st) : Int) % 2 == s.s[k]) = false := by rw [← ht.out]; exact hy
        have hF : Hid (placesL (keptAt s asg) (k + 1) = placesL (keptAt s asg) k) := Lib.hid (placesL_no (by rw [hq.out, hy2]))
        go_wp2_with fail
        go_quiet ((go_at_call 110; (first | exact quiet_left (c_OnesCount _ hxl _) | exact quiet_add_left (c_OnesCount _ hxl _))))
        all_goals go_wp2
        all_goals go_roundw
        case rel => exact ⟨k + 1, by omega, by go_num, by rw [hF.out]; exact hown.below (below_drewN (Below.refl _ _) _), hblk, ⟨hB.os, hB.tape, hB.output, hB.size, hB.block⟩⟩
        case measure => simp [intOf]; omega
      · have hy2 : ((ones 12 (x &&& st) : Int) % 2 == s.s[k]) = true := by rw [← ht.out]; exact hy
        have hF : Hid (placesL (keptAt s asg) (k + 1) = placesL (keptAt s asg) k ++ [(k : Int)]) := Lib.hid (placesL_yes (by rw [hq.out, hy2]))
        go_wp2_with fail
        go_quiet ((go_at_call 110; (first | exact quiet_left (c_OnesCount _ hxl _) | exact quiet_add_left (c_OnesCount _ hxl _))))
        all_goals go_wp2_with (at_builtin; refine wp_append_intB _ _ rfl _ _ rfl (w.heap.size + 1) _ _ rfl (hown.below (below_drewN (Below.refl _ _) _)) rfl (by first | rfl | simp) (by have := placesL_len (keptAt s asg) k; omega) (by first | omega | (simp; omega)) ?_; intro v' w2 hown2 hgr _ hbl)
        rw [← hF.out] at hown2
        have hgs : wr.heap.size ≤ w2.heap.size := hgr.size
        replace hbl : _ ∨ v'.ownBlock = some (wr.heap.size + 1) := hbl
        all_goals go_roundw
        case rel =>
          refine ⟨k + 1, by omega, by go_num, hown2, Lib.hid fun g e => ?_, hgr.os.trans hB.os, hgr.tape.trans hB.tape, hgr.output.trans hB.output, by omega, fun q hq1 hq2 => (hgr.block q (show q < wr.heap.size by omega) fun e => ?_).trans (hB.block q hq1 hq2)⟩
          · rcases hbl with hh | hh
            · rw [hh] at e; exact hblk.out g e
            · rw [hh] at e; cases e; omega
          · have := hblk.out q e.symm
            omega
        case measure => simp [intOf]; omega
    · obtain rfl : k = s.c.length := by omega
      go_wp2
      go_ret
      exact ⟨_, rfl, hown.mono (by omega), hall⟩

set_option maxHeartbeats 1000000 in
theorem c_solves (v : Value) (s : SceneD) (asg : List Int) (w : World) (h : SceneR w v s) (hs : sceneB s = true) (ha : (asg.length : Int) = s.n) (h1 : ∀ x ∈ asg, 0 ≤ x ∧ x ≤ 1) :
    Calls Try.prog 92 #[v, .int .u64 (setN asg 0 0 : Int)] w fun e w' => e = .returned (.bool (solvesB s asg)) ∧ Below w.heap.size w w' := by
  obtain ⟨v1, v2, rfl, hc, hsu⟩ := id h
  obtain ⟨a1, k1, rfl, l1⟩ := hc.out
  obtain ⟨a2, k2, rfl, l2, -⟩ := hsu.out
  have hA := (Below.refl w.heap.size w).alloc (Nat.le_refl _) (.cells #[.int .i64 s.n, .slice a1 s.c.length k1, .slice a2 s.s.length k2] 50)
  replace hs := Lib.hid hs
  replace ha := Lib.hid ha
  replace h1 := Lib.hid h1
  have pB : (w.alloc (.cells #[.int .i64 s.n, .slice a1 s.c.length k1, .slice a2 s.s.length k2] 50)).heap[w.heap.size]? = some (.cells #[.int .i64 s.n, .slice a1 s.c.length k1, .slice a2 s.s.length k2] 50 (0, 0)) := heap_alloc_at rfl
  obtain ⟨⟨z0, z1, z2⟩, -⟩ := blk3 pB
  have hlb : w.heap.size < (w.alloc (.cells #[.int .i64 s.n, .slice a1 s.c.length k1, .slice a2 s.s.length k2] 50)).heap.size := by simp
  go_enter Try.func92, Try.ntmps92
  go_wp2_with fail
  refine wp_region_rk (by kernel_rfl) [none, none, none, none, some 8, some 0, some 1, some 2, some 3, some 4, some 5, some 6, some 7] 8 (by kernel_rfl) (by kernel_rfl) (by kernel_rfl) _ rfl w.heap.size [rkV (.agg #[.int .i64 s.n, .slice a1 s.c.length k1, .slice a2 s.s.length k2]), rkV (.int .u64 (setN asg 0 0 : Int)), rkL (keptL s asg), rkV (.int .i64 ((keptL s asg).length : Int)), rkV (.pointer (some ⟨w.heap.size, 1, none⟩)), rkV (.slice a1 s.c.length k1), rkV (.int .i64 (s.c.length : Int)), rkV (.bool (solvesB s asg))] _ rfl (by kernel_rfl) (by simp) ?_ ?_
  · intro i o ho hi u g ww hbw hd
    have hall : Below w.heap.size w ww := hA.trans (hbw.mono (by simp))
    have hlow : w.heap.size ≤ ww.heap.size := hall.size
    obtain ⟨hcl, hfr⟩ := bcell hbw
    have y_z0 := (hcl _ _ (by omega)).trans z0
    have y_z1 := (hcl _ _ (by omega)).trans z1
    have y_z2 := (hcl _ _ (by omega)).trans z2
    clear hcl hfr
    rcases i with _ | _ | _ | _ | _ | _ | _ | _ | _ | i
    all_goals try obtain rfl := Option.some.inj ho
    all_goals try simp only [putAll, fillL]
    · go_wp2
      exact ⟨_, rfl, kept0 (Below.refl _ _), rfl⟩
    · go_wp2
      exact ⟨_, rfl, kept0 (Below.refl _ _), rfl⟩
    · have e0 : u 0 = .agg #[.int .i64 s.n, .slice a1 s.c.length k1, .slice a2 s.s.length k2] := hd 0 (by decide)
      rw [e0]
      have e1 : u 1 = .int .u64 (setN asg 0 0 : Int) := hd 1 (by decide)
      rw [e1]
      go_wp2_with fail
      refine (c_kept _ s asg _ (h.below hall) hs.out ha.out h1.out).mono ?_
      rintro e wn ⟨vn, rfl, hvn, hbn⟩
      go_wp2
      exact ⟨_, by simp only [putAll, fillL, e0, e1] <;> rfl, kept0 hbn, ⟨hvn.mono hlow, hvn.le, OwnS.lt hvn⟩⟩
    · have d2 : OwnF ww w.heap.size (InI (g 2)) (u 2) _ := hd 2 (by decide)
      obtain ⟨p2, q2, e2, -⟩ := d2.rd.out
      rw [e2]
      go_wp2
      exact ⟨_, by simp only [putAll, fillL, e2] <;> rfl, kept0 (Below.refl _ _), rfl⟩
    · go_wp2
      exact ⟨_, rfl, kept0 (Below.refl _ _), rfl⟩
    · have e4 : u 4 = .pointer (some ⟨w.heap.size, 1, none⟩) := hd 4 (by decide)
      rw [e4]
      go_wp2
      exact ⟨_, by simp only [putAll, fillL, e4] <;> rfl, kept0 (Below.refl _ _), rfl⟩
    · have e5 : u 5 = .slice a1 s.c.length k1 := hd 5 (by decide)
      rw [e5]
      go_wp2
      exact ⟨_, by simp only [putAll, fillL, e5] <;> rfl, kept0 (Below.refl _ _), rfl⟩
    · have e3 : u 3 = .int .i64 ((keptL s asg).length : Int) := hd 3 (by decide)
      rw [e3]
      have e6 : u 6 = .int .i64 (s.c.length : Int) := hd 6 (by decide)
      rw [e6]
      go_wp2
      exact ⟨_, by simp only [putAll, fillL, e3, e6] <;> rfl, kept0 (Below.refl _ _), rfl⟩
    · exact absurd rfl hi
    · simp at ho
  · intro u g' w2 hbw hR hAp
    have e7 : u 7 = .bool (solvesB s asg) := hR 7 (by decide) (by decide)
    simp only [putAll, fillL]
    rw [e7]
    have hall := hA.trans (hbw.mono (by simp))
    clear hR hAp
    go_wp2
    go_ret
    exact ⟨rfl, hall⟩

set_option maxHeartbeats 1000000 in
theorem c_impl_KeptBy (v u : Value) (s : SceneD) (asg : List Int) (w : World) (h : SceneR w v s) (ga : Ints w u asg) :
    Calls Try.prog 52 #[v, u] w fun e w' => ∃ v', e = .returned (.tuple #[v', .bool (sceneB s && asgB s asg)]) ∧ OwnI w' w.heap.size v' (if sceneB s && asgB s asg then keptL s asg else []) ∧ Below w.heap.size w w' := by
  obtain ⟨v1, v2, rfl, hc, hsu⟩ := id h
  obtain ⟨a1, k1, rfl, l1⟩ := hc.out
  obtain ⟨a2, k2, rfl, l2, -⟩ := hsu.out
  have hA := (Below.refl w.heap.size w).alloc (Nat.le_refl _) (.cells #[.int .i64 s.n, .slice a1 s.c.length k1, .slice a2 s.s.length k2] 50)
  obtain ⟨ad2, cap2, rfl, hl2, -⟩ := ga.out
  cases hs : sceneB s
  · replace hs := Lib.hid hs
    go_enter Try.func52, Try.ntmps52
    go_wp2_with fail
    refine (c_impl_IsScene _ s _ (h.below hA)).mono ?_
    rintro e w1 ⟨rfl, hb⟩
    rw [hs.out]
    have hA1 := hA.trans (hb.mono (by simp))
    go_wp2
    go_ret2
    exact ⟨_, rfl, own_nil _ _, hA1⟩
  cases ha : asgB s asg
  · have hs' := Lib.hid hs
    clear hs
    replace ha := Lib.hid ha
    go_enter Try.func52, Try.ntmps52
    go_wp2_with fail
    refine (c_impl_IsScene _ s _ (h.below hA)).mono ?_
    rintro e w1 ⟨rfl, hb⟩
    rw [hs'.out]
    replace hA := hA.trans (hb.mono (by simp))
    have hz := hA.size
    have pB : w1.heap[w.heap.size]? = some (.cells #[.int .i64 s.n, .slice a1 s.c.length k1, .slice a2 s.s.length k2] 50 (0, 0)) := blk_later hb (heap_alloc_at rfl)
    have hlb := (Array.getElem?_eq_some_iff.1 pB).1
    obtain ⟨⟨z0, z1, z2⟩, -⟩ := blk3 pB
    clear hb
    go_wp2_with fail
    refine (c_isAssignment _ _ s asg _ (h.below hA) (ga.below hA)).mono ?_
    rintro e w2 ⟨rfl, hb2⟩
    rw [ha.out]
    go_wp2
    go_ret2
    exact ⟨_, rfl, own_nil _ _, bstep hA hb2⟩
  · have hl := asgB_len ha
    have hs' := Lib.hid hs
    have hset := asg_set hs hl.1 hl.2
    clear hs
    replace ha := Lib.hid ha
    replace hl := Lib.hid hl
    replace hset := Lib.hid hset
    go_enter Try.func52, Try.ntmps52
    go_wp2_with fail
    refine (c_impl_IsScene _ s _ (h.below hA)).mono ?_
    rintro e w1 ⟨rfl, hb⟩
    rw [hs'.out]
    replace hA := hA.trans (hb.mono (by simp))
    have hz := hA.size
    have pB : w1.heap[w.heap.size]? = some (.cells #[.int .i64 s.n, .slice a1 s.c.length k1, .slice a2 s.s.length k2] 50 (0, 0)) := blk_later hb (heap_alloc_at rfl)
    have hlb := (Array.getElem?_eq_some_iff.1 pB).1
    obtain ⟨⟨z0, z1, z2⟩, -⟩ := blk3 pB
    clear hb
    go_wp2_with fail
    refine (c_isAssignment _ _ s asg _ (h.below hA) (ga.below hA)).mono ?_
    rintro e w2 ⟨rfl, hb2⟩
    rw [ha.out]
    replace pB := blk_later hb2 pB
    replace hA := bstep hA hb2
    have hz2 := hb2.size
    clear z0 z1 z2 hb2
    obtain ⟨⟨z0, z1, z2⟩, -⟩ := blk3 pB
    go_wp2_with fail
    refine wp_region_rk (by kernel_rfl) [none, none, none, none, some 4, some 5, none, none, none, none, none, none, none, none, none, some 0, some 1, some 2, some 3] 5 (by kernel_rfl) (by kernel_rfl) (by kernel_rfl) _ rfl w.heap.size [rkV (.agg #[.int .i64 s.n, .slice a1 s.c.length k1, .slice a2 s.s.length k2]), rkV (.slice ad2 asg.length cap2), rkV (.int .u64 (setN asg 0 0 : Int)), rkL (keptL s asg), rkE 3] _ rfl (by kernel_rfl) (by simp) ?_ ?_
    · intro i o ho hi u g ww hbw hd
      have hall : Below w.heap.size w ww := hA.trans (hbw.mono (by omega))
      have hlow : w.heap.size ≤ ww.heap.size := hall.size
      obtain ⟨hcl, hfr⟩ := bcell hbw
      have y_z0 := (hcl _ _ (by omega)).trans z0
      have y_z1 := (hcl _ _ (by omega)).trans z1
      have y_z2 := (hcl _ _ (by omega)).trans z2
      clear hcl hfr
      rcases i with _ | _ | _ | _ | _ | _ | i
      all_goals try obtain rfl := Option.some.inj ho
      all_goals try simp only [putAll, fillL]
      · go_wp2
        exact ⟨_, rfl, kept0 (Below.refl _ _), rfl⟩
      · go_wp2
        exact ⟨_, rfl, kept0 (Below.refl _ _), rfl⟩
      · have e1 : u 1 = .slice ad2 asg.length cap2 := hd 1 (by decide)
        rw [e1]
        go_wp2_with fail
        refine (c_setOf _ asg _ (ga.below hall) hset.out.1 hl.out.2).mono ?_
        rintro e _ ⟨rfl, rfl⟩
        go_wp2
        exact ⟨_, by simp only [putAll, fillL, e1] <;> rfl, kept0 (Below.refl _ _), rfl⟩
      · have e0 : u 0 = .agg #[.int .i64 s.n, .slice a1 s.c.length k1, .slice a2 s.s.length k2] := hd 0 (by decide)
        rw [e0]
        have e2 : u 2 = .int .u64 (setN asg 0 0 : Int) := hd 2 (by decide)
        rw [e2]
        go_wp2_with fail
        refine (c_kept _ s asg _ (h.below hall) hs'.out hl.out.1 hl.out.2).mono ?_
        rintro e wn ⟨vn, rfl, hvn, hbn⟩
        go_wp2
        exact ⟨_, by simp only [putAll, fillL, e0, e2] <;> rfl, kept0 hbn, ⟨hvn.mono hlow, hvn.le, OwnS.lt hvn⟩⟩
      · have d3 : OwnF ww w.heap.size (InI (g 3)) (u 3) _ := hd 3 (by decide)
        obtain ⟨p3, q3, e3, -⟩ := d3.rd.out
        rw [e3]
        go_wp2
        exact ⟨_, by simp only [putAll, fillL, e3] <;> rfl, kept0 (Below.refl _ _), by simp [rkH, rkE, e3]⟩
      · exact absurd rfl hi
      · simp at ho
    · intro u g' w3 hbw hR hAp
      have e4 : [u 4] = [u 3] := hR 4 (by decide) (by decide)
      have r3 : OwnF w3 w.heap.size _ (u 3) (keptL s asg) := hR 3 (by decide) (by decide)
      simp only [List.cons.injEq, and_true] at e4
      have r3' := r3.1
      simp only [putAll, fillL]
      rw [e4]
      have hall := hA.trans (hbw.mono (by omega))
      clear hR hAp
      go_wp2
      go_ret2
      exact ⟨_, rfl, r3', hall⟩

set_option maxHeartbeats 1000000 in
theorem c_picks (v : Value) (s : SceneD) (asg : List Int) (w : World) (h : SceneR w v s) (hs : sceneB s = true) (ha : (asg.length : Int) = s.n) (h1 : ∀ x ∈ asg, 0 ≤ x ∧ x ≤ 1) :
    Calls Try.prog 87 #[v, .int .u64 (setN asg 0 0 : Int)] w fun e w' => e = .returned (.bool (picksB s asg)) ∧ Below w.heap.size w w' := by
  obtain ⟨v1, v2, rfl, hc, hsu⟩ := id h
  obtain ⟨a1, k1, rfl, l1⟩ := hc.out
  obtain ⟨a2, k2, rfl, l2, -⟩ := hsu.out
  have hA := (Below.refl w.heap.size w).alloc (Nat.le_refl _) (.cells #[.int .i64 s.n, .slice a1 s.c.length k1, .slice a2 s.s.length k2] 50)
  obtain ⟨n10, -, -⟩ := scene_len hs
  obtain ⟨-, hst⟩ := asg_set hs ha h1
  have hO := ones_kept hs h1
  replace hO := Lib.hid hO
  have hml : Hid ((masksL s).length = s.c.length) := Lib.hid (by simp [masksL])
  replace hs := Lib.hid hs
  obtain ⟨st, hst2⟩ : ∃ st, st = setN asg 0 0 := ⟨_, rfl⟩
  rw [← hst2] at hst ⊢
  replace hst2 := Lib.hid hst2
  replace ha := Lib.hid ha
  replace h1 := Lib.hid h1
  go_enter Try.func87, Try.ntmps87
  go_wp2_with fail
  refine (c_masks _ s _ (h.below hA) hs.out).mono ?_
  rintro e w1 ⟨vm, rfl, hvm, hb1⟩
  obtain ⟨am, cm, rfl, hlm⟩ := hvm.out
  rw [hml.out] at hvm ⊢
  have hall : Below w.heap.size w w1 := hA.trans (hb1.mono (by simp))
  clear hb1
  go_wp2_with fail
  go_loop [10] (fun i => ∃ k : Nat, k ≤ s.c.length ∧ i = .int .i64 k ∧ Hid ((List.range k).all (pickAt s asg) = true)) (fun i => s.c.length - (intOf i).toNat)
  case atStart => exact ⟨0, Nat.zero_le _, rfl, rfl⟩
  case round =>
    obtain ⟨k, hk, rfl, HA⟩ := hrel
    by_cases hlt : k < s.c.length
    · have hmk : k < (masksL s).length := by have := hml.out; omega
      obtain ⟨bm, om, rfl, hbm, cm1⟩ := hvm.at k hmk
      have e1 : (masksL s)[k] = maskN s.c[k] 0 := by simp [masksL]
      rw [e1] at cm1
      replace e1 := Lib.hid e1
      obtain ⟨O1, O2⟩ := hO.out k hlt
      rw [← hst2.out] at O1
      obtain ⟨x, hx⟩ : ∃ x, x = maskN s.c[k] 0 := ⟨_, rfl⟩
      rw [← hx] at cm1 O1 O2
      replace hx := Lib.hid hx
      have hand := and_nat x st O2 hst
      have hxl : x &&& st < 4096 := Nat.lt_of_le_of_lt Nat.and_le_left O2
      have eg : Hid (s.c.getD k [] = s.c[k]) := Lib.hid (by simp [List.getD, hlt])
      have hq : Hid (pickAt s asg k = ((ones 12 (x &&& st) : Int) == 1)) := Lib.hid (by unfold pickAt; rw [eg.out, O1])
      replace O1 := Lib.hid O1
      cases hy : ((ones 12 (x &&& st) : Int) == 1)
      · have hF : Hid (picksB s asg = false) := Lib.hid (range_all_false hlt (by rw [hq.out, hy]))
        have hy2 : ((ones 12 (x &&& st) : Int) != 1) = true := by simp only [bne, hy]; rfl
        go_wp2_with fail
        refine (c_OnesCount _ hxl _).mono ?_
        rintro e _ ⟨rfl, rfl⟩
        go_wp2
        go_ret
        exact ⟨by rw [hF.out]; rfl, hall⟩
      · have hF : Hid ((List.range (k + 1)).all (pickAt s asg) = true) := Lib.hid (by rw [range_all_succ, HA.out, hq.out, hy]; rfl)
        have hy2 : ((ones 12 (x &&& st) : Int) != 1) = false := by simp only [bne, hy]; rfl
        go_wp2_with fail
        refine (c_OnesCount _ hxl _).mono ?_
        rintro e _ ⟨rfl, rfl⟩
        go_wp2
        go_round
        case rel => exact ⟨k + 1, by omega, by go_num, hF⟩
        case measure => simp [intOf]; omega
    · obtain rfl : k = s.c.length := by omega
      have hF : Hid (picksB s asg = true) := HA
      go_wp2
      go_ret
      exact ⟨by rw [hF.out]; rfl, hall⟩

set_option maxHeartbeats 1000000 in
theorem c_impl_SolvesScene (v u : Value) (s : SceneD) (asg : List Int) (w : World) (h : SceneR w v s) (ga : Ints w u asg) :
    Calls Try.prog 48 #[v, u] w fun e w' => e = .returned (.tuple #[.bool (sceneB s && (asgB s asg && solvesB s asg)), .bool (sceneB s)]) ∧ Below w.heap.size w w' := by
  obtain ⟨v1, v2, rfl, hc, hsu⟩ := id h
  obtain ⟨a1, k1, rfl, l1⟩ := hc.out
  obtain ⟨a2, k2, rfl, l2, -⟩ := hsu.out
  have hA := (Below.refl w.heap.size w).alloc (Nat.le_refl _) (.cells #[.int .i64 s.n, .slice a1 s.c.length k1, .slice a2 s.s.length k2] 50)
  obtain ⟨ad2, cap2, rfl, hl2, -⟩ := ga.out
  cases hs : sceneB s
  · replace hs := Lib.hid hs
    go_enter Try.func48, Try.ntmps48
    go_wp2_with fail
    refine (c_impl_IsScene _ s _ (h.below hA)).mono ?_
    rintro e w1 ⟨rfl, hb⟩
    rw [hs.out]
    have hA1 := hA.trans (hb.mono (by simp))
    go_wp2
    go_ret2
    exact ⟨rfl, hA1⟩
  cases ha : asgB s asg
  · have hs' := Lib.hid hs
    clear hs
    replace ha := Lib.hid ha
    go_enter Try.func48, Try.ntmps48
    go_wp2_with fail
    refine (c_impl_IsScene _ s _ (h.below hA)).mono ?_
    rintro e w1 ⟨rfl, hb⟩
    rw [hs'.out]
    replace hA := hA.trans (hb.mono (by simp))
    have hz := hA.size
    have pB : w1.heap[w.heap.size]? = some (.cells #[.int .i64 s.n, .slice a1 s.c.length k1, .slice a2 s.s.length k2] 50 (0, 0)) := blk_later hb (heap_alloc_at rfl)
    have hlb := (Array.getElem?_eq_some_iff.1 pB).1
    obtain ⟨⟨z0, z1, z2⟩, -⟩ := blk3 pB
    clear hb
    go_wp2_with fail
    refine wp_region_rk (by kernel_rfl) [none, none, none, none, some 9, some 10, none, none, none, some 0, some 1, some 2, some 3, some 4, some 5, some 6, some 7, some 8] 10 (by kernel_rfl) (by kernel_rfl) (by kernel_rfl) _ rfl w.heap.size [rkV (.agg #[.int .i64 s.n, .slice a1 s.c.length k1, .slice a2 s.s.length k2]), rkV (.slice ad2 asg.length cap2), rkV (.bool false), rkV (.bool false), rkT, rkT, rkT, rkT, rkV (.bool false), rkV (.bool false)] _ rfl (by kernel_rfl) (by simp) ?_ ?_
    · intro i o ho hi u g ww hbw hd
      have hall : Below w.heap.size w ww := hA.trans (hbw.mono (by omega))
      have hlow : w.heap.size ≤ ww.heap.size := hall.size
      obtain ⟨hcl, hfr⟩ := bcell hbw
      have y_z0 := (hcl _ _ (by omega)).trans z0
      have y_z1 := (hcl _ _ (by omega)).trans z1
      have y_z2 := (hcl _ _ (by omega)).trans z2
      clear hcl hfr
      rcases i with _ | _ | _ | _ | _ | _ | _ | _ | _ | _ | _ | i
      all_goals try obtain rfl := Option.some.inj ho
      all_goals try simp only [putAll, fillL]
      · go_wp2
        exact ⟨_, rfl, kept0 (Below.refl _ _), rfl⟩
      · go_wp2
        exact ⟨_, rfl, kept0 (Below.refl _ _), rfl⟩
      · have e0 : u 0 = .agg #[.int .i64 s.n, .slice a1 s.c.length k1, .slice a2 s.s.length k2] := hd 0 (by decide)
        rw [e0]
        have e1 : u 1 = .slice ad2 asg.length cap2 := hd 1 (by decide)
        rw [e1]
        go_wp2_with fail
        refine (c_isAssignment_is _ _ s asg false _ (h.below hall) (ga.below hall) ha.out).mono ?_
        rintro e wn ⟨rfl, hbn⟩
        go_wp2
        exact ⟨_, by simp only [putAll, fillL, e0, e1] <;> rfl, kept0 hbn, rfl⟩
      · have e2 : u 2 = .bool false := hd 2 (by decide)
        rw [e2]
        go_wp2
        exact ⟨_, by simp only [putAll, fillL, e2] <;> rfl, kept0 (Below.refl _ _), rfl⟩
      · have e3 : u 3 = .bool false := hd 3 (by decide)
        rw [e3]
        go_wp2
        exact ⟨undef, by simp only [putAll, fillL, e3] <;> rfl, kept0 (Below.refl _ _), trivial⟩
      · have e3 : u 3 = .bool false := hd 3 (by decide)
        rw [e3]
        go_wp2
        exact ⟨undef, by simp only [putAll, fillL, e3] <;> rfl, kept0 (Below.refl _ _), trivial⟩
      · have e3 : u 3 = .bool false := hd 3 (by decide)
        rw [e3]
        go_wp2
        exact ⟨undef, by simp only [putAll, fillL, e3] <;> rfl, kept0 (Below.refl _ _), trivial⟩
      · have e3 : u 3 = .bool false := hd 3 (by decide)
        rw [e3]
        go_wp2
        exact ⟨undef, by simp only [putAll, fillL, e3] <;> rfl, kept0 (Below.refl _ _), trivial⟩
      · have e3 : u 3 = .bool false := hd 3 (by decide)
        rw [e3]
        go_wp2
        exact ⟨_, by simp only [putAll, fillL, e3] <;> rfl, kept0 (Below.refl _ _), rfl⟩
      · have e8 : u 8 = .bool false := hd 8 (by decide)
        rw [e8]
        go_wp2
        exact ⟨_, by simp only [putAll, fillL, e8] <;> rfl, kept0 (Below.refl _ _), rfl⟩
      · exact absurd rfl hi
      · simp at ho
    · intro u g' w3 hbw hR hAp
      have e9 : u 9 = .bool false := hR 9 (by decide) (by decide)
      simp only [putAll, fillL]
      rw [e9]
      have hall := hA.trans (hbw.mono (by omega))
      clear hR hAp
      go_wp2
      go_ret2
      exact ⟨rfl, hall⟩
  · have hl := asgB_len ha
    have hs' := Lib.hid hs
    have hset := asg_set hs hl.1 hl.2
    clear hs
    replace ha := Lib.hid ha
    replace hl := Lib.hid hl
    replace hset := Lib.hid hset
    have hV : Hid ((true && (true && solvesB s asg)) = solvesB s asg) := Lib.hid (by simp)
    rw [hV.out]
    go_enter Try.func48, Try.ntmps48
    go_wp2_with fail
    refine (c_impl_IsScene _ s _ (h.below hA)).mono ?_
    rintro e w1 ⟨rfl, hb⟩
    rw [hs'.out]
    replace hA := hA.trans (hb.mono (by simp))
    have hz := hA.size
    have pB : w1.heap[w.heap.size]? = some (.cells #[.int .i64 s.n, .slice a1 s.c.length k1, .slice a2 s.s.length k2] 50 (0, 0)) := blk_later hb (heap_alloc_at rfl)
    have hlb := (Array.getElem?_eq_some_iff.1 pB).1
    obtain ⟨⟨z0, z1, z2⟩, -⟩ := blk3 pB
    clear hb
    go_wp2_with fail
    refine wp_region_rk (by kernel_rfl) [none, none, none, none, some 9, some 10, none, none, none, some 0, some 1, some 2, some 3, some 4, some 5, some 6, some 7, some 8] 10 (by kernel_rfl) (by kernel_rfl) (by kernel_rfl) _ rfl w.heap.size [rkV (.agg #[.int .i64 s.n, .slice a1 s.c.length k1, .slice a2 s.s.length k2]), rkV (.slice ad2 asg.length cap2), rkV (.bool true), rkV (.bool true), rkV (.agg #[.int .i64 s.n, .slice a1 s.c.length k1, .slice a2 s.s.length k2]), rkV (.slice ad2 asg.length cap2), rkV (.int .u64 (setN asg 0 0 : Int)), rkV (.bool (solvesB s asg)), rkV (.bool (solvesB s asg)), rkV (.bool (solvesB s asg))] _ rfl (by kernel_rfl) (by simp) ?_ ?_
    · intro i o ho hi u g ww hbw hd
      have hall : Below w.heap.size w ww := hA.trans (hbw.mono (by omega))
      have hlow : w.heap.size ≤ ww.heap.size := hall.size
      obtain ⟨hcl, hfr⟩ := bcell hbw
      have y_z0 := (hcl _ _ (by omega)).trans z0
      have y_z1 := (hcl _ _ (by omega)).trans z1
      have y_z2 := (hcl _ _ (by omega)).trans z2
      clear hcl hfr
      rcases i with _ | _ | _ | _ | _ | _ | _ | _ | _ | _ | _ | i
      all_goals try obtain rfl := Option.some.inj ho
      all_goals try simp only [putAll, fillL]
      · go_wp2
        exact ⟨_, rfl, kept0 (Below.refl _ _), rfl⟩
      · go_wp2
        exact ⟨_, rfl, kept0 (Below.refl _ _), rfl⟩
      · have e0 : u 0 = .agg #[.int .i64 s.n, .slice a1 s.c.length k1, .slice a2 s.s.length k2] := hd 0 (by decide)
        rw [e0]
        have e1 : u 1 = .slice ad2 asg.length cap2 := hd 1 (by decide)
        rw [e1]
        go_wp2_with fail
        refine (c_isAssignment_is _ _ s asg true _ (h.below hall) (ga.below hall) ha.out).mono ?_
        rintro e wn ⟨rfl, hbn⟩
        go_wp2
        exact ⟨_, by simp only [putAll, fillL, e0, e1] <;> rfl, kept0 hbn, rfl⟩
      · have e2 : u 2 = .bool true := hd 2 (by decide)
        rw [e2]
        go_wp2
        exact ⟨_, by simp only [putAll, fillL, e2] <;> rfl, kept0 (Below.refl _ _), rfl⟩
      · have e3 : u 3 = .bool true := hd 3 (by decide)
        rw [e3]
        go_wp2
        exact ⟨_, by simp only [putAll, fillL, e3] <;> rfl, kept0 (Below.refl _ _), rfl⟩
      · have e3 : u 3 = .bool true := hd 3 (by decide)
        rw [e3]
        go_wp2
        exact ⟨_, by simp only [putAll, fillL, e3] <;> rfl, kept0 (Below.refl _ _), rfl⟩
      · have e3 : u 3 = .bool true := hd 3 (by decide)
        rw [e3]
        have e5 : u 5 = .slice ad2 asg.length cap2 := hd 5 (by decide)
        rw [e5]
        go_wp2_with fail
        refine (c_setOf _ asg _ (ga.below hall) hset.out.1 hl.out.2).mono ?_
        rintro e _ ⟨rfl, rfl⟩
        go_wp2
        exact ⟨_, by simp only [putAll, fillL, e3, e5] <;> rfl, kept0 (Below.refl _ _), rfl⟩
      · have e3 : u 3 = .bool true := hd 3 (by decide)
        rw [e3]
        have e4 : u 4 = .agg #[.int .i64 s.n, .slice a1 s.c.length k1, .slice a2 s.s.length k2] := hd 4 (by decide)
        rw [e4]
        have e6 : u 6 = .int .u64 (setN asg 0 0 : Int) := hd 6 (by decide)
        rw [e6]
        go_wp2_with fail
        refine (c_solves _ s asg _ (h.below hall) hs'.out hl.out.1 hl.out.2).mono ?_
        rintro e wn ⟨rfl, hbn⟩
        go_wp2
        exact ⟨_, by simp only [putAll, fillL, e3, e4, e6] <;> rfl, kept0 hbn, rfl⟩
      · have e3 : u 3 = .bool true := hd 3 (by decide)
        rw [e3]
        have e7 : u 7 = .bool (solvesB s asg) := hd 7 (by decide)
        rw [e7]
        go_wp2
        exact ⟨_, by simp only [putAll, fillL, e3, e7] <;> rfl, kept0 (Below.refl _ _), rfl⟩
      · have e8 : u 8 = .bool (solvesB s asg) := hd 8 (by decide)
        rw [e8]
        go_wp2
        exact ⟨_, by simp only [putAll, fillL, e8] <;> rfl, kept0 (Below.refl _ _), rfl⟩
      · exact absurd rfl hi
      · simp at ho
    · intro u g' w3 hbw hR hAp
      have e9 : u 9 = .bool (solvesB s asg) := hR 9 (by decide) (by decide)
      simp only [putAll, fillL]
      rw [e9]
      have hall := hA.trans (hbw.mono (by omega))
      clear hR hAp
      go_wp2
      go_ret2
      exact ⟨rfl, hall⟩
set_option maxHeartbeats 1000000 in
theorem c_impl_Picks (v u : Value) (s : SceneD) (asg : List Int) (w : World) (h : SceneR w v s) (ga : Ints w u asg) :
    Calls Try.prog 41 #[v, u] w fun e w' => e = .returned (.tuple #[.bool (sceneB s && (asgB s asg && picksB s asg)), .bool (sceneB s)]) ∧ Below w.heap.size w w' := by
  obtain ⟨v1, v2, rfl, hc, hsu⟩ := id h
  obtain ⟨a1, k1, rfl, l1⟩ := hc.out
  obtain ⟨a2, k2, rfl, l2, -⟩ := hsu.out
  have hA := (Below.refl w.heap.size w).alloc (Nat.le_refl _) (.cells #[.int .i64 s.n, .slice a1 s.c.length k1, .slice a2 s.s.length k2] 50)
  obtain ⟨ad2, cap2, rfl, hl2, -⟩ := ga.out
  cases hs : sceneB s
  · replace hs := Lib.hid hs
    go_enter Try.func41, Try.ntmps41
    go_wp2_with fail
    refine (c_impl_IsScene _ s _ (h.below hA)).mono ?_
    rintro e w1 ⟨rfl, hb⟩
    rw [hs.out]
    have hA1 := hA.trans (hb.mono (by simp))
    go_wp2
    go_ret2
    exact ⟨rfl, hA1⟩
  cases ha : asgB s asg
  · have hs' := Lib.hid hs
    clear hs
    replace ha := Lib.hid ha
    go_enter Try.func41, Try.ntmps41
    go_wp2_with fail
    refine (c_impl_IsScene _ s _ (h.below hA)).mono ?_
    rintro e w1 ⟨rfl, hb⟩
    rw [hs'.out]
    replace hA := hA.trans (hb.mono (by simp))
    have hz := hA.size
    have pB : w1.heap[w.heap.size]? = some (.cells #[.int .i64 s.n, .slice a1 s.c.length k1, .slice a2 s.s.length k2] 50 (0, 0)) := blk_later hb (heap_alloc_at rfl)
    have hlb := (Array.getElem?_eq_some_iff.1 pB).1
    obtain ⟨⟨z0, z1, z2⟩, -⟩ := blk3 pB
    clear hb
    go_wp2_with fail
    refine wp_region_rk (by kernel_rfl) [none, none, none, none, some 9, some 10, none, none, none, some 0, some 1, some 2, some 3, some 4, some 5, some 6, some 7, some 8] 10 (by kernel_rfl) (by kernel_rfl) (by kernel_rfl) _ rfl w.heap.size [rkV (.agg #[.int .i64 s.n, .slice a1 s.c.length k1, .slice a2 s.s.length k2]), rkV (.slice ad2 asg.length cap2), rkV (.bool false), rkV (.bool false), rkT, rkT, rkT, rkT, rkV (.bool false), rkV (.bool false)] _ rfl (by kernel_rfl) (by simp) ?_ ?_
    · intro i o ho hi u g ww hbw hd
      have hall : Below w.heap.size w ww := hA.trans (hbw.mono (by omega))
      have hlow : w.heap.size ≤ ww.heap.size := hall.size
      obtain ⟨hcl, hfr⟩ := bcell hbw
      have y_z0 := (hcl _ _ (by omega)).trans z0
      have y_z1 := (hcl _ _ (by omega)).trans z1
      have y_z2 := (hcl _ _ (by omega)).trans z2
      clear hcl hfr
      rcases i with _ | _ | _ | _ | _ | _ | _ | _ | _ | _ | _ | i
      all_goals try obtain rfl := Option.some.inj ho
      all_goals try simp only [putAll, fillL]
      · go_wp2
        exact ⟨_, rfl, kept0 (Below.refl _ _), rfl⟩
      · go_wp2
        exact ⟨_, rfl, kept0 (Below.refl _ _), rfl⟩
      · have e0 : u 0 = .agg #[.int .i64 s.n, .slice a1 s.c.length k1, .slice a2 s.s.length k2] := hd 0 (by decide)
        rw [e0]
        have e1 : u 1 = .slice ad2 asg.length cap2 := hd 1 (by decide)
        rw [e1]
        go_wp2_with fail
        refine (c_isAssignment_is _ _ s asg false _ (h.below hall) (ga.below hall) ha.out).mono ?_
        rintro e wn ⟨rfl, hbn⟩
        go_wp2
        exact ⟨_, by simp only [putAll, fillL, e0, e1] <;> rfl, kept0 hbn, rfl⟩
      · have e2 : u 2 = .bool false := hd 2 (by decide)
        rw [e2]
        go_wp2
        exact ⟨_, by simp only [putAll, fillL, e2] <;> rfl, kept0 (Below.refl _ _), rfl⟩
      · have e3 : u 3 = .bool false := hd 3 (by decide)
        rw [e3]
        go_wp2
        exact ⟨undef, by simp only [putAll, fillL, e3] <;> rfl, kept0 (Below.refl _ _), trivial⟩
      · have e3 : u 3 = .bool false := hd 3 (by decide)
        rw [e3]
        go_wp2
        exact ⟨undef, by simp only [putAll, fillL, e3] <;> rfl, kept0 (Below.refl _ _), trivial⟩
      · have e3 : u 3 = .bool false := hd 3 (by decide)
        rw [e3]
        go_wp2
        exact ⟨undef, by simp only [putAll, fillL, e3] <;> rfl, kept0 (Below.refl _ _), trivial⟩
      · have e3 : u 3 = .bool false := hd 3 (by decide)
        rw [e3]
        go_wp2
        exact ⟨undef, by simp only [putAll, fillL, e3] <;> rfl, kept0 (Below.refl _ _), trivial⟩
      · have e3 : u 3 = .bool false := hd 3 (by decide)
        rw [e3]
        go_wp2
        exact ⟨_, by simp only [putAll, fillL, e3] <;> rfl, kept0 (Below.refl _ _), rfl⟩
      · have e8 : u 8 = .bool false := hd 8 (by decide)
        rw [e8]
        go_wp2
        exact ⟨_, by simp only [putAll, fillL, e8] <;> rfl, kept0 (Below.refl _ _), rfl⟩
      · exact absurd rfl hi
      · simp at ho
    · intro u g' w3 hbw hR hAp
      have e9 : u 9 = .bool false := hR 9 (by decide) (by decide)
      simp only [putAll, fillL]
      rw [e9]
      have hall := hA.trans (hbw.mono (by omega))
      clear hR hAp
      go_wp2
      go_ret2
      exact ⟨rfl, hall⟩
  · have hl := asgB_len ha
    have hs' := Lib.hid hs
    have hset := asg_set hs hl.1 hl.2
    clear hs
    replace ha := Lib.hid ha
    replace hl := Lib.hid hl
    replace hset := Lib.hid hset
    have hV : Hid ((true && (true && picksB s asg)) = picksB s asg) := Lib.hid (by simp)
    rw [hV.out]
    go_enter Try.func41, Try.ntmps41
    go_wp2_with fail
    refine (c_impl_IsScene _ s _ (h.below hA)).mono ?_
    rintro e w1 ⟨rfl, hb⟩
    rw [hs'.out]
    replace hA := hA.trans (hb.mono (by simp))
    have hz := hA.size
    have pB : w1.heap[w.heap.size]? = some (.cells #[.int .i64 s.n, .slice a1 s.c.length k1, .slice a2 s.s.length k2] 50 (0, 0)) := blk_later hb (heap_alloc_at rfl)
    have hlb := (Array.getElem?_eq_some_iff.1 pB).1
    obtain ⟨⟨z0, z1, z2⟩, -⟩ := blk3 pB
    clear hb
    go_wp2_with fail
    refine wp_region_rk (by kernel_rfl) [none, none, none, none, some 9, some 10, none, none, none, some 0, some 1, some 2, some 3, some 4, some 5, some 6, some 7, some 8] 10 (by kernel_rfl) (by kernel_rfl) (by kernel_rfl) _ rfl w.heap.size [rkV (.agg #[.int .i64 s.n, .slice a1 s.c.length k1, .slice a2 s.s.length k2]), rkV (.slice ad2 asg.length cap2), rkV (.bool true), rkV (.bool true), rkV (.agg #[.int .i64 s.n, .slice a1 s.c.length k1, .slice a2 s.s.length k2]), rkV (.slice ad2 asg.length cap2), rkV (.int .u64 (setN asg 0 0 : Int)), rkV (.bool (picksB s asg)), rkV (.bool (picksB s asg)), rkV (.bool (picksB s asg))] _ rfl (by kernel_rfl) (by simp) ?_ ?_
    · intro i o ho hi u g ww hbw hd
      have hall : Below w.heap.size w ww := hA.trans (hbw.mono (by omega))
      have hlow : w.heap.size ≤ ww.heap.size := hall.size
      obtain ⟨hcl, hfr⟩ := bcell hbw
      have y_z0 := (hcl _ _ (by omega)).trans z0
      have y_z1 := (hcl _ _ (by omega)).trans z1
      have y_z2 := (hcl _ _ (by omega)).trans z2
      clear hcl hfr
      rcases i with _ | _ | _ | _ | _ | _ | _ | _ | _ | _ | _ | i
      all_goals try obtain rfl := Option.some.inj ho
      all_goals try simp only [putAll, fillL]
      · go_wp2
        exact ⟨_, rfl, kept0 (Below.refl _ _), rfl⟩
      · go_wp2
        exact ⟨_, rfl, kept0 (Below.refl _ _), rfl⟩
      · have e0 : u 0 = .agg #[.int .i64 s.n, .slice a1 s.c.length k1, .slice a2 s.s.length k2] := hd 0 (by decide)
        rw [e0]
        have e1 : u 1 = .slice ad2 asg.length cap2 := hd 1 (by decide)
        rw [e1]
        go_wp2_with fail
        refine (c_isAssignment_is _ _ s asg true _ (h.below hall) (ga.below hall) ha.out).mono ?_
        rintro e wn ⟨rfl, hbn⟩
        go_wp2
        exact ⟨_, by simp only [putAll, fillL, e0, e1] <;> rfl, kept0 hbn, rfl⟩
      · have e2 : u 2 = .bool true := hd 2 (by decide)
        rw [e2]
        go_wp2
        exact ⟨_, by simp only [putAll, fillL, e2] <;> rfl, kept0 (Below.refl _ _), rfl⟩
      · have e3 : u 3 = .bool true := hd 3 (by decide)
        rw [e3]
        go_wp2
        exact ⟨_, by simp only [putAll, fillL, e3] <;> rfl, kept0 (Below.refl _ _), rfl⟩
      · have e3 : u 3 = .bool true := hd 3 (by decide)
        rw [e3]
        go_wp2
        exact ⟨_, by simp only [putAll, fillL, e3] <;> rfl, kept0 (Below.refl _ _), rfl⟩
      · have e3 : u 3 = .bool true := hd 3 (by decide)
        rw [e3]
        have e5 : u 5 = .slice ad2 asg.length cap2 := hd 5 (by decide)
        rw [e5]
        go_wp2_with fail
        refine (c_setOf _ asg _ (ga.below hall) hset.out.1 hl.out.2).mono ?_
        rintro e _ ⟨rfl, rfl⟩
        go_wp2
        exact ⟨_, by simp only [putAll, fillL, e3, e5] <;> rfl, kept0 (Below.refl _ _), rfl⟩
      · have e3 : u 3 = .bool true := hd 3 (by decide)
        rw [e3]
        have e4 : u 4 = .agg #[.int .i64 s.n, .slice a1 s.c.length k1, .slice a2 s.s.length k2] := hd 4 (by decide)
        rw [e4]
        have e6 : u 6 = .int .u64 (setN asg 0 0 : Int) := hd 6 (by decide)
        rw [e6]
        go_wp2_with fail
        refine (c_picks _ s asg _ (h.below hall) hs'.out hl.out.1 hl.out.2).mono ?_
        rintro e wn ⟨rfl, hbn⟩
        go_wp2
        exact ⟨_, by simp only [putAll, fillL, e3, e4, e6] <;> rfl, kept0 hbn, rfl⟩
      · have e3 : u 3 = .bool true := hd 3 (by decide)
        rw [e3]
        have e7 : u 7 = .bool (picksB s asg) := hd 7 (by decide)
        rw [e7]
        go_wp2
        exact ⟨_, by simp only [putAll, fillL, e3, e7] <;> rfl, kept0 (Below.refl _ _), rfl⟩
      · have e8 : u 8 = .bool (picksB s asg) := hd 8 (by decide)
        rw [e8]
        go_wp2
        exact ⟨_, by simp only [putAll, fillL, e8] <;> rfl, kept0 (Below.refl _ _), rfl⟩
      · exact absurd rfl hi
      · simp at ho
    · intro u g' w3 hbw hR hAp
      have e9 : u 9 = .bool (picksB s asg) := hR 9 (by decide) (by decide)
      simp only [putAll, fillL]
      rw [e9]
      have hall := hA.trans (hbw.mono (by omega))
      clear hR hAp
      go_wp2
      go_ret2
      exact ⟨rfl, hall⟩
end Go.Proofs.Ytikfddppjalfdaa
