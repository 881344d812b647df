/- The best talk on the program's side: the region that puts a step; conditions: none. -/
import Derived.Test.YtpieaeokbblflaaBuildT
import Derived.Test.YtpieaeokbblflaaMemoI
namespace Go.Proofs.Ytpieaeokbblflaa
open Go.RowKit

/-- what is behind three appends in whatever order: L says which operations have been, u their values -/
structure JPL (B n0 pb : Nat) (F1 F2 F3 : Nat → Prop) (v1 v2 v3 : Value) (r : TalkD) (s : Int) (bits : List Int) (w0 : World) (vs : List (Option Value)) (L : Nat → Bool) (u : Nat → Value) (w : World) (G1 G2 G3 : Nat → Prop) : Prop where
  vals : ∀ j x, L j = true → vs.getD j none = some x → u j = x
  kept : KeptOff (fun k => F1 k ∨ F2 k ∨ F3 k ∨ k = pb) w0 w
  box : w.heap[pb]? = some (.cells #[cond (L 29) (u 9) v1, cond (L 32) (u 19) v2, cond (L 35) (u 26) v3] 38 (0, 0))
  o1 : OwnF w B G1 (cond (L 9) (u 9) v1) (cond (L 9) (r.p ++ [s]) r.p)
  o2 : OwnR w B G2 (cond (L 19) (u 19) v2) (cond (L 19) (r.s ++ [bits]) r.s)
  o3 : OwnP w B G3 (cond (L 26) (u 26) v3) (cond (L 26) (r.x ++ [(0, 0)]) r.x)
  g1 : ∀ k, G1 k → F1 k ∨ (n0 ≤ k ∧ k < w.heap.size)
  g2 : ∀ k, G2 k → F2 k ∨ (n0 ≤ k ∧ k < w.heap.size)
  g3 : ∀ k, G3 k → F3 k ∨ (n0 ≤ k ∧ k < w.heap.size)
  d12 : ∀ k, G1 k → ¬ G2 k
  d13 : ∀ k, G1 k → ¬ G3 k
  d23 : ∀ k, G2 k → ¬ G3 k
  t8 : L 8 = true → ∃ x, u 8 = .slice (some ⟨x, 0, none⟩) 1 1 ∧ n0 ≤ x ∧ w.cell? ⟨x, 0, none⟩ = some (.int .i64 s)
  t17 : L 17 = true → OwnI w n0 (u 17) bits
  f17 : L 17 = true → L 19 = false → ∀ g, (u 17).ownBlock = some g → ¬ G1 g ∧ ¬ G2 g ∧ ¬ G3 g
  t18 : L 18 = true → ∃ x, u 18 = .slice (some ⟨x, 0, none⟩) 1 1 ∧ n0 ≤ x ∧ w.cell? ⟨x, 0, none⟩ = some (u 17)
  t25 : L 25 = true → ∃ x, u 25 = .slice (some ⟨x, 0, none⟩) 1 1 ∧ n0 ≤ x ∧ w.cell? ⟨x, 0, none⟩ = some (.int .i64 0) ∧ w.cell? ⟨x, 1, none⟩ = some (.int .i64 0)
/-- the operations whose values the law names -/
def special : List Nat := [8, 9, 17, 18, 19, 25, 26, 29, 32, 35]
theorem JPL.step {B n0 pb : Nat} {F1 F2 F3 : Nat → Prop} {v1 v2 v3 : Value} {r : TalkD} {s : Int} {bits : List Int} {w0 : World} {vs : List (Option Value)} {L : Nat → Bool} {u : Nat → Value} {w : World} {G1 G2 G3 : Nat → Prop}
    (h : JPL B n0 pb F1 F2 F3 v1 v2 v3 r s bits w0 vs L u w G1 G2 G3) (i : Nat) (x : Value) (hi : ∀ j ∈ special, j ≠ i) (hx : ∀ y, vs.getD i none = some y → y = x) : JPL B n0 pb F1 F2 F3 v1 v2 v3 r s bits w0 vs (setL L i) (upd u i x) w G1 G2 G3 := by
  have hL : ∀ j ∈ special, setL L i j = L j := fun j hj => by simp [setL, hi j hj]
  have hu : ∀ j ∈ special, upd u i x j = u j := fun j hj => by simp [upd, hi j hj]
  have l8 := hL 8 (by decide); have l9 := hL 9 (by decide); have l17 := hL 17 (by decide); have l18 := hL 18 (by decide); have l19 := hL 19 (by decide)
  have l25 := hL 25 (by decide); have l26 := hL 26 (by decide); have l29 := hL 29 (by decide); have l32 := hL 32 (by decide); have l35 := hL 35 (by decide)
  have k8 := hu 8 (by decide); have k9 := hu 9 (by decide); have k17 := hu 17 (by decide); have k18 := hu 18 (by decide); have k19 := hu 19 (by decide)
  have k25 := hu 25 (by decide); have k26 := hu 26 (by decide)
  obtain ⟨a1, a2, a3, a4, a5, a6, a7, a8, a9, b1, b2, b3, b4, b5, b6, b7, b8⟩ := h
  refine ⟨fun j y hj hy => ?_, a2, by rw [l29, l32, l35, k9, k19, k26]; exact a3, by rw [l9, k9]; exact a4, by rw [l19, k19]; exact a5, by rw [l26, k26]; exact a6, a7, a8, a9, b1, b2, b3, by rw [l8, k8]; exact b4, by rw [l17, k17]; exact b5, by rw [l17, l19, k17]; exact b6, by rw [l18, k18, k17]; exact b7, by rw [l25, k25]; exact b8⟩
  by_cases e : j = i
  · subst e; rw [hx y hy]; simp [upd]
  · rw [show upd u i x j = u j by simp [upd, e]]
    exact a1 j y (by simpa [setL, e] using hj) hy
section
variable {B n0 pb : Nat} {F1 F2 F3 : Nat → Prop} {v1 v2 v3 : Value} {r : TalkD} {s : Int} {bits : List Int} {w0 : World} {vs : List (Option Value)} {L : Nat → Bool} {u : Nat → Value} {w : World} {G1 G2 G3 : Nat → Prop}
theorem cell_kept {w w' : World} {x j : Nat} {v : Value} {F : Nat → Prop} (h : w.cell? ⟨x, j, none⟩ = some v) (hk : KeptOff F w w') (hx : ¬ F x) : w'.cell? ⟨x, j, none⟩ = some v := by
  have hl := World.block_lt_of_cell? w _ h
  rw [← h]
  unfold World.cell?
  rw [hk.block x hl hx]
/-- blocks that none of it looks at have been written, new ones made -/
theorem JPL.off (h : JPL B n0 pb F1 F2 F3 v1 v2 v3 r s bits w0 vs L u w G1 G2 G3) {wn : World} {F : Nat → Prop} (hk : KeptOff F w wn) (hF : ∀ k, ¬ F k) : JPL B n0 pb F1 F2 F3 v1 v2 v3 r s bits w0 vs L u wn G1 G2 G3 := by
  have hz := hk.size
  exact ⟨h.vals, h.kept.trans (hk.mono fun k f => (hF k f).elim), (hk.block _ (Array.getElem?_eq_some_iff.1 h.box).1 (hF _)).trans h.box, h.o1.off hk fun k _ => hF k, h.o2.off hk fun k _ => hF k, h.o3.off hk fun k _ => hF k,
    fun k g => (h.g1 k g).imp id fun q => ⟨q.1, by omega⟩, fun k g => (h.g2 k g).imp id fun q => ⟨q.1, by omega⟩, fun k g => (h.g3 k g).imp id fun q => ⟨q.1, by omega⟩, h.d12, h.d13, h.d23,
    fun e => (h.t8 e).imp fun x q => ⟨q.1, q.2.1, cell_kept q.2.2 hk (hF _)⟩, fun e => (h.t17 e).off hk fun g _ => hF g, h.f17, fun e => (h.t18 e).imp fun x q => ⟨q.1, q.2.1, cell_kept q.2.2 hk (hF _)⟩,
    fun e => (h.t25 e).imp fun x q => ⟨q.1, q.2.1, cell_kept q.2.2.1 hk (hF _), cell_kept q.2.2.2 hk (hF _)⟩⟩
theorem JPL.below (h : JPL B n0 pb F1 F2 F3 v1 v2 v3 r s bits w0 vs L u w G1 G2 G3) {wn : World} (hb : Below w.heap.size w wn) : JPL B n0 pb F1 F2 F3 v1 v2 v3 r s bits w0 vs L u wn G1 G2 G3 := h.off (kept0 hb) fun _ f => f
theorem setL_ne {L : Nat → Bool} {i j : Nat} (h : j ≠ i) : setL L i j = L j := by simp [setL, h]
theorem upd_ne {u : Nat → Value} {i j : Nat} {v : Value} (h : j ≠ i) : upd u i v j = u j := by simp [upd, h]
theorem upd_eq {u : Nat → Value} {i : Nat} {v : Value} : upd u i v i = v := by simp [upd]
theorem setL_eq {L : Nat → Bool} {i : Nat} : setL L i i = true := by simp [setL]
theorem JPL.vals' (h : JPL B n0 pb F1 F2 F3 v1 v2 v3 r s bits w0 vs L u w G1 G2 G3) {i : Nat} {v : Value} (hvs : vs.getD i none = none) : ∀ j x, setL L i j = true → vs.getD j none = some x → upd u i v j = x := by
  intro j x hj hx
  by_cases e : j = i
  · subst e; rw [hvs] at hx; cases hx
  · rw [upd_ne e]; exact h.vals j x (by rw [setL_ne e] at hj; exact hj) hx
theorem JPL.made8 (h : JPL B n0 pb F1 F2 F3 v1 v2 v3 r s bits w0 vs L u w G1 G2 G3) (hvs : vs.getD 8 none = none) {x : Nat} (hx : n0 ≤ x) (hc : w.cell? ⟨x, 0, none⟩ = some (.int .i64 s)) :
    JPL B n0 pb F1 F2 F3 v1 v2 v3 r s bits w0 vs (setL L 8) (upd u 8 (.slice (some ⟨x, 0, none⟩) 1 1)) w G1 G2 G3 := by
  obtain ⟨a1, a2, a3, a4, a5, a6, a7, a8, a9, b1, b2, b3, b4, b5, b6, b7, b8⟩ := id h
  refine ⟨h.vals' hvs, a2, ?_, ?_, ?_, ?_, a7, a8, a9, b1, b2, b3, fun _ => ⟨x, upd_eq, hx, hc⟩, ?_, ?_, ?_, ?_⟩
  all_goals simp only [setL_ne (L := L) (i := 8) (show 9 ≠ 8 by decide), setL_ne (L := L) (i := 8) (show 17 ≠ 8 by decide), setL_ne (L := L) (i := 8) (show 18 ≠ 8 by decide), setL_ne (L := L) (i := 8) (show 19 ≠ 8 by decide), setL_ne (L := L) (i := 8) (show 25 ≠ 8 by decide), setL_ne (L := L) (i := 8) (show 26 ≠ 8 by decide), setL_ne (L := L) (i := 8) (show 29 ≠ 8 by decide), setL_ne (L := L) (i := 8) (show 32 ≠ 8 by decide), setL_ne (L := L) (i := 8) (show 35 ≠ 8 by decide),
    upd_ne (u := u) (i := 8) (show 9 ≠ 8 by decide), upd_ne (u := u) (i := 8) (show 17 ≠ 8 by decide), upd_ne (u := u) (i := 8) (show 18 ≠ 8 by decide), upd_ne (u := u) (i := 8) (show 19 ≠ 8 by decide), upd_ne (u := u) (i := 8) (show 25 ≠ 8 by decide), upd_ne (u := u) (i := 8) (show 26 ≠ 8 by decide)]
  all_goals assumption
end
section
variable {B n0 pb : Nat} {F1 F2 F3 : Nat → Prop} {v1 v2 v3 : Value} {r : TalkD} {s : Int} {bits : List Int} {w0 : World} {vs : List (Option Value)} {L : Nat → Bool} {u : Nat → Value} {w : World} {G1 G2 G3 : Nat → Prop}
theorem JPL.made17 (h : JPL B n0 pb F1 F2 F3 v1 v2 v3 r s bits w0 vs L u w G1 G2 G3) (hvs : vs.getD 17 none = none) (hl18 : L 18 = false) {v : Value} (hv : OwnI w n0 v bits) (hg : ∀ g, v.ownBlock = some g → ¬ G1 g ∧ ¬ G2 g ∧ ¬ G3 g) :
    JPL B n0 pb F1 F2 F3 v1 v2 v3 r s bits w0 vs (setL L 17) (upd u 17 v) w G1 G2 G3 := by
  obtain ⟨a1, a2, a3, a4, a5, a6, a7, a8, a9, b1, b2, b3, b4, b5, b6, b7, b8⟩ := id h
  refine ⟨h.vals' hvs, a2, ?_, ?_, ?_, ?_, a7, a8, a9, b1, b2, b3, ?_, fun _ => ?_, fun _ _ => ?_, fun e => ?_, ?_⟩
  all_goals try simp only [setL_ne (L := L) (i := 17) (show 8 ≠ 17 by decide), setL_ne (L := L) (i := 17) (show 9 ≠ 17 by decide), setL_ne (L := L) (i := 17) (show 19 ≠ 17 by decide), setL_ne (L := L) (i := 17) (show 25 ≠ 17 by decide), setL_ne (L := L) (i := 17) (show 26 ≠ 17 by decide), setL_ne (L := L) (i := 17) (show 29 ≠ 17 by decide), setL_ne (L := L) (i := 17) (show 32 ≠ 17 by decide), setL_ne (L := L) (i := 17) (show 35 ≠ 17 by decide), upd_ne (u := u) (i := 17) (show 8 ≠ 17 by decide), upd_ne (u := u) (i := 17) (show 9 ≠ 17 by decide), upd_ne (u := u) (i := 17) (show 18 ≠ 17 by decide), upd_ne (u := u) (i := 17) (show 19 ≠ 17 by decide), upd_ne (u := u) (i := 17) (show 25 ≠ 17 by decide), upd_ne (u := u) (i := 17) (show 26 ≠ 17 by decide)]
  case refine_6 => rw [upd_eq]; exact hv
  case refine_7 => rw [upd_eq]; exact hg
  case refine_8 => rw [setL_ne (by decide), hl18] at e; cases e
  all_goals assumption
theorem JPL.made18 (h : JPL B n0 pb F1 F2 F3 v1 v2 v3 r s bits w0 vs L u w G1 G2 G3) (hvs : vs.getD 18 none = none) {x : Nat} (hx : n0 ≤ x) (hc : w.cell? ⟨x, 0, none⟩ = some (u 17)) :
    JPL B n0 pb F1 F2 F3 v1 v2 v3 r s bits w0 vs (setL L 18) (upd u 18 (.slice (some ⟨x, 0, none⟩) 1 1)) w G1 G2 G3 := by
  obtain ⟨a1, a2, a3, a4, a5, a6, a7, a8, a9, b1, b2, b3, b4, b5, b6, b7, b8⟩ := id h
  refine ⟨h.vals' hvs, a2, ?_, ?_, ?_, ?_, a7, a8, a9, b1, b2, b3, ?_, ?_, ?_, fun _ => ⟨x, upd_eq, hx, by rw [upd_ne (by decide)]; exact hc⟩, ?_⟩
  all_goals simp only [setL_ne (L := L) (i := 18) (show 8 ≠ 18 by decide), setL_ne (L := L) (i := 18) (show 9 ≠ 18 by decide), setL_ne (L := L) (i := 18) (show 17 ≠ 18 by decide), setL_ne (L := L) (i := 18) (show 19 ≠ 18 by decide), setL_ne (L := L) (i := 18) (show 25 ≠ 18 by decide), setL_ne (L := L) (i := 18) (show 26 ≠ 18 by decide), setL_ne (L := L) (i := 18) (show 29 ≠ 18 by decide), setL_ne (L := L) (i := 18) (show 32 ≠ 18 by decide), setL_ne (L := L) (i := 18) (show 35 ≠ 18 by decide), upd_ne (u := u) (i := 18) (show 8 ≠ 18 by decide), upd_ne (u := u) (i := 18) (show 9 ≠ 18 by decide), upd_ne (u := u) (i := 18) (show 17 ≠ 18 by decide), upd_ne (u := u) (i := 18) (show 19 ≠ 18 by decide), upd_ne (u := u) (i := 18) (show 25 ≠ 18 by decide), upd_ne (u := u) (i := 18) (show 26 ≠ 18 by decide)]
  all_goals assumption
theorem JPL.made25 (h : JPL B n0 pb F1 F2 F3 v1 v2 v3 r s bits w0 vs L u w G1 G2 G3) (hvs : vs.getD 25 none = none) {x : Nat} (hx : n0 ≤ x) (hc : w.cell? ⟨x, 0, none⟩ = some (.int .i64 0)) (hc2 : w.cell? ⟨x, 1, none⟩ = some (.int .i64 0)) :
    JPL B n0 pb F1 F2 F3 v1 v2 v3 r s bits w0 vs (setL L 25) (upd u 25 (.slice (some ⟨x, 0, none⟩) 1 1)) w G1 G2 G3 := by
  obtain ⟨a1, a2, a3, a4, a5, a6, a7, a8, a9, b1, b2, b3, b4, b5, b6, b7, b8⟩ := id h
  refine ⟨h.vals' hvs, a2, ?_, ?_, ?_, ?_, a7, a8, a9, b1, b2, b3, ?_, ?_, ?_, ?_, fun _ => ⟨x, upd_eq, hx, hc, hc2⟩⟩
  all_goals simp only [setL_ne (L := L) (i := 25) (show 8 ≠ 25 by decide), setL_ne (L := L) (i := 25) (show 9 ≠ 25 by decide), setL_ne (L := L) (i := 25) (show 17 ≠ 25 by decide), setL_ne (L := L) (i := 25) (show 18 ≠ 25 by decide), setL_ne (L := L) (i := 25) (show 19 ≠ 25 by decide), setL_ne (L := L) (i := 25) (show 26 ≠ 25 by decide), setL_ne (L := L) (i := 25) (show 29 ≠ 25 by decide), setL_ne (L := L) (i := 25) (show 32 ≠ 25 by decide), setL_ne (L := L) (i := 25) (show 35 ≠ 25 by decide), upd_ne (u := u) (i := 25) (show 8 ≠ 25 by decide), upd_ne (u := u) (i := 25) (show 9 ≠ 25 by decide), upd_ne (u := u) (i := 25) (show 17 ≠ 25 by decide), upd_ne (u := u) (i := 25) (show 18 ≠ 25 by decide), upd_ne (u := u) (i := 25) (show 19 ≠ 25 by decide), upd_ne (u := u) (i := 25) (show 26 ≠ 25 by decide)]
  all_goals assumption
theorem JPL.stored29 (h : JPL B n0 pb F1 F2 F3 v1 v2 v3 r s bits w0 vs L u w G1 G2 G3) (hvs : vs.getD 29 none = none) (hF : ∀ k, F1 k ∨ F2 k ∨ F3 k → k < n0 ∧ k ≠ pb) (hpb : pb < n0) :
    JPL B n0 pb F1 F2 F3 v1 v2 v3 r s bits w0 vs (setL L 29) (upd u 29 undef) (w.setCell ⟨pb, 0, none⟩ (u 9)) G1 G2 G3 := by
  obtain ⟨a1, a2, a3, a4, a5, a6, a7, a8, a9, b1, b2, b3, b4, b5, b6, b7, b8⟩ := id h
  have hkp := keptOff_set w pb 0 (u 9)
  have n1 : ∀ k, G1 k → ¬ k = pb := fun k f e => by rcases a7 k f with g | g; exact (hF k (.inl g)).2 e; omega
  have n2 : ∀ k, G2 k → ¬ k = pb := fun k f e => by rcases a8 k f with g | g; exact (hF k (.inr (.inl g))).2 e; omega
  have n3 : ∀ k, G3 k → ¬ k = pb := fun k f e => by rcases a9 k f with g | g; exact (hF k (.inr (.inr g))).2 e; omega
  have hs : (w.setCell ⟨pb, 0, none⟩ (u 9)).heap.size = w.heap.size := by simp
  have hbx := (talk_cell0 (v := u 9) a3).1
  refine ⟨h.vals' hvs, a2.trans (hkp.mono fun k f => .inr (.inr (.inr f))), ?_, ?_, ?_, ?_, by rw [hs]; exact a7, by rw [hs]; exact a8, by rw [hs]; exact a9, b1, b2, b3, ?_, ?_, ?_, ?_, ?_⟩
  all_goals simp only [setL_ne (L := L) (i := 29) (show 8 ≠ 29 by decide), setL_ne (L := L) (i := 29) (show 9 ≠ 29 by decide), setL_ne (L := L) (i := 29) (show 17 ≠ 29 by decide), setL_ne (L := L) (i := 29) (show 18 ≠ 29 by decide), setL_ne (L := L) (i := 29) (show 19 ≠ 29 by decide), setL_ne (L := L) (i := 29) (show 25 ≠ 29 by decide), setL_ne (L := L) (i := 29) (show 26 ≠ 29 by decide), setL_ne (L := L) (i := 29) (show 32 ≠ 29 by decide), setL_ne (L := L) (i := 29) (show 35 ≠ 29 by decide), upd_ne (u := u) (i := 29) (show 8 ≠ 29 by decide), upd_ne (u := u) (i := 29) (show 9 ≠ 29 by decide), upd_ne (u := u) (i := 29) (show 17 ≠ 29 by decide), upd_ne (u := u) (i := 29) (show 18 ≠ 29 by decide), upd_ne (u := u) (i := 29) (show 19 ≠ 29 by decide), upd_ne (u := u) (i := 29) (show 25 ≠ 29 by decide), upd_ne (u := u) (i := 29) (show 26 ≠ 29 by decide)]
  case refine_1 => rw [setL_eq]; exact hbx
  case refine_2 => exact a4.off hkp n1
  case refine_3 => exact a5.off hkp n2
  case refine_4 => exact a6.off hkp n3
  case refine_5 => exact fun e => (b4 e).imp fun x q => ⟨q.1, q.2.1, cell_kept q.2.2 hkp (by have := q.2.1; omega)⟩
  case refine_6 => exact fun e => (b5 e).off hkp fun g eg f => by have := (OwnS.lt (b5 e) g eg).1; omega
  case refine_7 => exact b6
  case refine_8 => exact fun e => (b7 e).imp fun x q => ⟨q.1, q.2.1, cell_kept q.2.2 hkp (by have := q.2.1; omega)⟩
  case refine_9 => exact fun e => (b8 e).imp fun x q => ⟨q.1, q.2.1, cell_kept q.2.2.1 hkp (by have := q.2.1; omega), cell_kept q.2.2.2 hkp (by have := q.2.1; omega)⟩
theorem JPL.stored32 (h : JPL B n0 pb F1 F2 F3 v1 v2 v3 r s bits w0 vs L u w G1 G2 G3) (hvs : vs.getD 32 none = none) (hF : ∀ k, F1 k ∨ F2 k ∨ F3 k → k < n0 ∧ k ≠ pb) (hpb : pb < n0) :
    JPL B n0 pb F1 F2 F3 v1 v2 v3 r s bits w0 vs (setL L 32) (upd u 32 undef) (w.setCell ⟨pb, 1, none⟩ (u 19)) G1 G2 G3 := by
  obtain ⟨a1, a2, a3, a4, a5, a6, a7, a8, a9, b1, b2, b3, b4, b5, b6, b7, b8⟩ := id h
  have hkp := keptOff_set w pb 1 (u 19)
  have n1 : ∀ k, G1 k → ¬ k = pb := fun k f e => by rcases a7 k f with g | g; exact (hF k (.inl g)).2 e; omega
  have n2 : ∀ k, G2 k → ¬ k = pb := fun k f e => by rcases a8 k f with g | g; exact (hF k (.inr (.inl g))).2 e; omega
  have n3 : ∀ k, G3 k → ¬ k = pb := fun k f e => by rcases a9 k f with g | g; exact (hF k (.inr (.inr g))).2 e; omega
  have hs : (w.setCell ⟨pb, 1, none⟩ (u 19)).heap.size = w.heap.size := by simp
  have hbx := (talk_cell0 (v := u 19) a3).2.1
  refine ⟨h.vals' hvs, a2.trans (hkp.mono fun k f => .inr (.inr (.inr f))), ?_, ?_, ?_, ?_, by rw [hs]; exact a7, by rw [hs]; exact a8, by rw [hs]; exact a9, b1, b2, b3, ?_, ?_, ?_, ?_, ?_⟩
  all_goals simp only [setL_ne (L := L) (i := 32) (show 8 ≠ 32 by decide), setL_ne (L := L) (i := 32) (show 9 ≠ 32 by decide), setL_ne (L := L) (i := 32) (show 17 ≠ 32 by decide), setL_ne (L := L) (i := 32) (show 18 ≠ 32 by decide), setL_ne (L := L) (i := 32) (show 19 ≠ 32 by decide), setL_ne (L := L) (i := 32) (show 25 ≠ 32 by decide), setL_ne (L := L) (i := 32) (show 26 ≠ 32 by decide), setL_ne (L := L) (i := 32) (show 29 ≠ 32 by decide), setL_ne (L := L) (i := 32) (show 35 ≠ 32 by decide), upd_ne (u := u) (i := 32) (show 8 ≠ 32 by decide), upd_ne (u := u) (i := 32) (show 9 ≠ 32 by decide), upd_ne (u := u) (i := 32) (show 17 ≠ 32 by decide), upd_ne (u := u) (i := 32) (show 18 ≠ 32 by decide), upd_ne (u := u) (i := 32) (show 19 ≠ 32 by decide), upd_ne (u := u) (i := 32) (show 25 ≠ 32 by decide), upd_ne (u := u) (i := 32) (show 26 ≠ 32 by decide)]
  case refine_1 => rw [setL_eq]; exact hbx
  case refine_2 => exact a4.off hkp n1
  case refine_3 => exact a5.off hkp n2
  case refine_4 => exact a6.off hkp n3
  case refine_5 => exact fun e => (b4 e).imp fun x q => ⟨q.1, q.2.1, cell_kept q.2.2 hkp (by have := q.2.1; omega)⟩
  case refine_6 => exact fun e => (b5 e).off hkp fun g eg f => by have := (OwnS.lt (b5 e) g eg).1; omega
  case refine_7 => exact b6
  case refine_8 => exact fun e => (b7 e).imp fun x q => ⟨q.1, q.2.1, cell_kept q.2.2 hkp (by have := q.2.1; omega)⟩
  case refine_9 => exact fun e => (b8 e).imp fun x q => ⟨q.1, q.2.1, cell_kept q.2.2.1 hkp (by have := q.2.1; omega), cell_kept q.2.2.2 hkp (by have := q.2.1; omega)⟩
theorem JPL.stored35 (h : JPL B n0 pb F1 F2 F3 v1 v2 v3 r s bits w0 vs L u w G1 G2 G3) (hvs : vs.getD 35 none = none) (hF : ∀ k, F1 k ∨ F2 k ∨ F3 k → k < n0 ∧ k ≠ pb) (hpb : pb < n0) :
    JPL B n0 pb F1 F2 F3 v1 v2 v3 r s bits w0 vs (setL L 35) (upd u 35 undef) (w.setCell ⟨pb, 2, none⟩ (u 26)) G1 G2 G3 := by
  obtain ⟨a1, a2, a3, a4, a5, a6, a7, a8, a9, b1, b2, b3, b4, b5, b6, b7, b8⟩ := id h
  have hkp := keptOff_set w pb 2 (u 26)
  have n1 : ∀ k, G1 k → ¬ k = pb := fun k f e => by rcases a7 k f with g | g; exact (hF k (.inl g)).2 e; omega
  have n2 : ∀ k, G2 k → ¬ k = pb := fun k f e => by rcases a8 k f with g | g; exact (hF k (.inr (.inl g))).2 e; omega
  have n3 : ∀ k, G3 k → ¬ k = pb := fun k f e => by rcases a9 k f with g | g; exact (hF k (.inr (.inr g))).2 e; omega
  have hs : (w.setCell ⟨pb, 2, none⟩ (u 26)).heap.size = w.heap.size := by simp
  have hbx := (talk_cell0 (v := u 26) a3).2.2
  refine ⟨h.vals' hvs, a2.trans (hkp.mono fun k f => .inr (.inr (.inr f))), ?_, ?_, ?_, ?_, by rw [hs]; exact a7, by rw [hs]; exact a8, by rw [hs]; exact a9, b1, b2, b3, ?_, ?_, ?_, ?_, ?_⟩
  all_goals simp only [setL_ne (L := L) (i := 35) (show 8 ≠ 35 by decide), setL_ne (L := L) (i := 35) (show 9 ≠ 35 by decide), setL_ne (L := L) (i := 35) (show 17 ≠ 35 by decide), setL_ne (L := L) (i := 35) (show 18 ≠ 35 by decide), setL_ne (L := L) (i := 35) (show 19 ≠ 35 by decide), setL_ne (L := L) (i := 35) (show 25 ≠ 35 by decide), setL_ne (L := L) (i := 35) (show 26 ≠ 35 by decide), setL_ne (L := L) (i := 35) (show 29 ≠ 35 by decide), setL_ne (L := L) (i := 35) (show 32 ≠ 35 by decide), upd_ne (u := u) (i := 35) (show 8 ≠ 35 by decide), upd_ne (u := u) (i := 35) (show 9 ≠ 35 by decide), upd_ne (u := u) (i := 35) (show 17 ≠ 35 by decide), upd_ne (u := u) (i := 35) (show 18 ≠ 35 by decide), upd_ne (u := u) (i := 35) (show 19 ≠ 35 by decide), upd_ne (u := u) (i := 35) (show 25 ≠ 35 by decide), upd_ne (u := u) (i := 35) (show 26 ≠ 35 by decide)]
  case refine_1 => rw [setL_eq]; exact hbx
  case refine_2 => exact a4.off hkp n1
  case refine_3 => exact a5.off hkp n2
  case refine_4 => exact a6.off hkp n3
  case refine_5 => exact fun e => (b4 e).imp fun x q => ⟨q.1, q.2.1, cell_kept q.2.2 hkp (by have := q.2.1; omega)⟩
  case refine_6 => exact fun e => (b5 e).off hkp fun g eg f => by have := (OwnS.lt (b5 e) g eg).1; omega
  case refine_7 => exact b6
  case refine_8 => exact fun e => (b7 e).imp fun x q => ⟨q.1, q.2.1, cell_kept q.2.2 hkp (by have := q.2.1; omega)⟩
  case refine_9 => exact fun e => (b8 e).imp fun x q => ⟨q.1, q.2.1, cell_kept q.2.2.1 hkp (by have := q.2.1; omega), cell_kept q.2.2.2 hkp (by have := q.2.1; omega)⟩
end
section
variable {B n0 pb : Nat} {F1 F2 F3 : Nat → Prop} {v1 v2 v3 : Value} {r : TalkD} {s : Int} {bits : List Int} {w0 : World} {vs : List (Option Value)} {L : Nat → Bool} {u : Nat → Value} {w : World} {G1 G2 G3 : Nat → Prop}
theorem JPL.added9 (h : JPL B n0 pb F1 F2 F3 v1 v2 v3 r s bits w0 vs L u w G1 G2 G3) (hvs : vs.getD 9 none = none) (hl : L 9 = false) (hst : L 29 = false) (hv0 : ∀ g, v1.ownBlock = some g → F1 g) {v : Value} {wn : World} (hv : OwnI wn B v (r.p ++ [s])) (hgr : w.grownBy wn v1.ownBlock) (ht : v.ownBlock = v1.ownBlock ∨ v.ownBlock = some w.heap.size) (hF : ∀ k, F1 k ∨ F2 k ∨ F3 k → k < n0 ∧ k ≠ pb) (hpb : pb < n0) (hn0 : n0 = w0.heap.size) :
    JPL B n0 pb F1 F2 F3 v1 v2 v3 r s bits w0 vs (setL L 9) (upd u 9 v) wn (fun k => G1 k ∨ (k = w.heap.size ∧ k < wn.heap.size)) G2 G3 := by
  obtain ⟨a1, a2, a3, a4, a5, a6, a7, a8, a9, b1, b2, b3, b4, b5, b6, b7, b8⟩ := id h
  have hk := grown_kept hgr
  have hz := hk.size
  have hw : n0 ≤ w.heap.size := by rw [hn0]; exact a2.size
  rw [hl] at a4
  have hG : ∀ k, v1.ownBlock = some k → G1 k := a4.2.2
  have hlt : ∀ k, v1.ownBlock = some k → k < n0 ∧ k ≠ pb := fun k e => hF k (.inl (hv0 k e))
  have l1 : ∀ k, G1 k → k < w.heap.size := fun k g => by rcases a7 k g with f | f; have := hF k (.inl f); omega; omega
  have l2 : ∀ k, G2 k → k < w.heap.size := fun k g => by rcases a8 k g with f | f; have := hF k (.inr (.inl f)); omega; omega
  have l3 : ∀ k, G3 k → k < w.heap.size := fun k g => by rcases a9 k g with f | f; have := hF k (.inr (.inr f)); omega; omega
  have hbx := (hk.block pb (by omega) (fun e => (hlt _ e).2 rfl)).trans a3
  refine ⟨h.vals' hvs, a2.trans (hk.mono fun k e => .inl (hv0 k e)), ?_, ?_, ?_, ?_, fun k g => by rcases g with g | g; exact (a7 k g).imp id fun q => ⟨q.1, by omega⟩; exact .inr (by omega), fun k g => (a8 k g).imp id fun q => ⟨q.1, by omega⟩, fun k g => (a9 k g).imp id fun q => ⟨q.1, by omega⟩, fun k g f => by rcases g with g | g; exact b1 k g f; have := l2 k f; omega, fun k g f => by rcases g with g | g; exact b2 k g f; have := l3 k f; omega, b3, ?_, ?_, ?_, ?_, ?_⟩
  all_goals try simp only [setL_ne (L := L) (i := 9) (show 8 ≠ 9 by decide), setL_ne (L := L) (i := 9) (show 17 ≠ 9 by decide), setL_ne (L := L) (i := 9) (show 18 ≠ 9 by decide), setL_ne (L := L) (i := 9) (show 19 ≠ 9 by decide), setL_ne (L := L) (i := 9) (show 25 ≠ 9 by decide), setL_ne (L := L) (i := 9) (show 26 ≠ 9 by decide), setL_ne (L := L) (i := 9) (show 29 ≠ 9 by decide), setL_ne (L := L) (i := 9) (show 32 ≠ 9 by decide), setL_ne (L := L) (i := 9) (show 35 ≠ 9 by decide), upd_ne (u := u) (i := 9) (show 8 ≠ 9 by decide), upd_ne (u := u) (i := 9) (show 17 ≠ 9 by decide), upd_ne (u := u) (i := 9) (show 18 ≠ 9 by decide), upd_ne (u := u) (i := 9) (show 19 ≠ 9 by decide), upd_ne (u := u) (i := 9) (show 25 ≠ 9 by decide), upd_ne (u := u) (i := 9) (show 26 ≠ 9 by decide)]
  case refine_1 => rw [hst] at hbx ⊢; exact hbx
  case refine_2 =>
    rw [setL_eq, upd_eq]
    exact ⟨hv, hv.le, fun g e => by rcases ht with t | t; exact .inl (hG g (t ▸ e)); exact .inr ⟨by have q := t.symm.trans e; injection q with q; exact q.symm, (OwnS.lt hv g e).2⟩⟩
  case refine_3 => exact a5.off hk (fun k f e => b1 k (hG k e) f)
  case refine_4 => exact a6.off hk (fun k f e => b2 k (hG k e) f)
  case refine_5 => exact fun e => (b4 e).imp fun x q => ⟨q.1, q.2.1, cell_kept q.2.2 hk (fun e => by have := hlt _ e; have := q.2.1; omega)⟩
  case refine_6 => exact fun e => (b5 e).off hk fun g eg e => by have := hlt _ e; have := (OwnS.lt (b5 ‹_›) g eg).1; omega
  case refine_7 => exact fun e e2 g eg => by obtain ⟨x, y, z⟩ := b6 e e2 g eg; have := (OwnS.lt (b5 e) g eg).2; exact ⟨fun q => by rcases q with q | q; exact x q; omega, y, z⟩
  case refine_8 => exact fun e => (b7 e).imp fun x q => ⟨q.1, q.2.1, cell_kept q.2.2 hk (fun e => by have := hlt _ e; have := q.2.1; omega)⟩
  case refine_9 => exact fun e => (b8 e).imp fun x q => ⟨q.1, q.2.1, cell_kept q.2.2.1 hk (fun e => by have := hlt _ e; have := q.2.1; omega), cell_kept q.2.2.2 hk (fun e => by have := hlt _ e; have := q.2.1; omega)⟩
theorem JPL.added19 (h : JPL B n0 pb F1 F2 F3 v1 v2 v3 r s bits w0 vs L u w G1 G2 G3) (hvs : vs.getD 19 none = none) (hl : L 19 = false) (hst : L 32 = false) (hv0 : ∀ g, v2.ownBlock = some g → F2 g) {v : Value} {wn : World} (hv : ∀ G : Nat → Prop, (∀ k, G2 k → G k) → (∀ k, (u 17).ownBlock = some k → G k) → (∀ k, w.heap.size ≤ k → k < wn.heap.size → G k) → OwnR wn B G v (r.s ++ [bits])) (hl17 : L 17 = true) (hgr : w.grownBy wn v2.ownBlock) (hF : ∀ k, F1 k ∨ F2 k ∨ F3 k → k < n0 ∧ k ≠ pb) (hpb : pb < n0) (hn0 : n0 = w0.heap.size) :
    JPL B n0 pb F1 F2 F3 v1 v2 v3 r s bits w0 vs (setL L 19) (upd u 19 v) wn G1 (fun k => G2 k ∨ (u 17).ownBlock = some k ∨ (w.heap.size ≤ k ∧ k < wn.heap.size)) G3 := by
  obtain ⟨a1, a2, a3, a4, a5, a6, a7, a8, a9, b1, b2, b3, b4, b5, b6, b7, b8⟩ := id h
  have hk := grown_kept hgr
  have hz := hk.size
  have hw : n0 ≤ w.heap.size := by rw [hn0]; exact a2.size
  rw [hl] at a5
  have hG : ∀ k, v2.ownBlock = some k → G2 k := a5.own
  have hlt : ∀ k, v2.ownBlock = some k → k < n0 ∧ k ≠ pb := fun k e => hF k (.inr (.inl (hv0 k e)))
  have l1 : ∀ k, G1 k → k < w.heap.size := fun k g => by rcases a7 k g with f | f; have := hF k (.inl f); omega; omega
  have l2 : ∀ k, G2 k → k < w.heap.size := fun k g => by rcases a8 k g with f | f; have := hF k (.inr (.inl f)); omega; omega
  have l3 : ∀ k, G3 k → k < w.heap.size := fun k g => by rcases a9 k g with f | f; have := hF k (.inr (.inr f)); omega; omega
  have hu17 : ∀ k, (u 17).ownBlock = some k → n0 ≤ k ∧ k < w.heap.size := fun k e => OwnS.lt (b5 hl17) k e
  have hf17 := b6 hl17 hl
  have hbx := (hk.block pb (by omega) (fun e => (hlt _ e).2 rfl)).trans a3
  refine ⟨h.vals' hvs, a2.trans (hk.mono fun k e => .inr (.inl (hv0 k e))), ?_, ?_, ?_, ?_, fun k g => (a7 k g).imp id fun q => ⟨q.1, by omega⟩, fun k g => by rcases g with g | g | g; exact (a8 k g).imp id fun q => ⟨q.1, by omega⟩; exact .inr (by have := hu17 k g; omega); exact .inr (by omega), fun k g => (a9 k g).imp id fun q => ⟨q.1, by omega⟩, fun k g f => by rcases f with f | f | f; exact b1 k g f; exact (hf17 k f).1 g; have := l1 k g; omega, b2, fun k g f => by rcases g with g | g | g; exact b3 k g f; exact (hf17 k g).2.2 f; have := l3 k f; omega, ?_, ?_, ?_, ?_, ?_⟩
  all_goals try simp only [setL_ne (L := L) (i := 19) (show 8 ≠ 19 by decide), setL_ne (L := L) (i := 19) (show 9 ≠ 19 by decide), setL_ne (L := L) (i := 19) (show 17 ≠ 19 by decide), setL_ne (L := L) (i := 19) (show 18 ≠ 19 by decide), setL_ne (L := L) (i := 19) (show 25 ≠ 19 by decide), setL_ne (L := L) (i := 19) (show 26 ≠ 19 by decide), setL_ne (L := L) (i := 19) (show 29 ≠ 19 by decide), setL_ne (L := L) (i := 19) (show 32 ≠ 19 by decide), setL_ne (L := L) (i := 19) (show 35 ≠ 19 by decide), upd_ne (u := u) (i := 19) (show 8 ≠ 19 by decide), upd_ne (u := u) (i := 19) (show 9 ≠ 19 by decide), upd_ne (u := u) (i := 19) (show 17 ≠ 19 by decide), upd_ne (u := u) (i := 19) (show 18 ≠ 19 by decide), upd_ne (u := u) (i := 19) (show 25 ≠ 19 by decide), upd_ne (u := u) (i := 19) (show 26 ≠ 19 by decide)]
  case refine_1 => rw [hst] at hbx ⊢; exact hbx
  case refine_2 => exact a4.off hk (fun k f e => b1 k f (hG k e))
  case refine_3 =>
    rw [setL_eq, upd_eq]
    exact hv _ (fun k g => .inl g) (fun k e => .inr (.inl e)) (fun k a b => .inr (.inr ⟨a, b⟩))
  case refine_4 => exact a6.off hk (fun k f e => b3 k (hG k e) f)
  case refine_5 => exact fun e => (b4 e).imp fun x q => ⟨q.1, q.2.1, cell_kept q.2.2 hk (fun e => by have := hlt _ e; have := q.2.1; omega)⟩
  case refine_6 => exact fun e => (b5 e).off hk fun g eg e => by have := hlt _ e; have := (OwnS.lt (b5 ‹_›) g eg).1; omega
  case refine_7 => intro _ e; rw [setL_eq] at e; cases e
  case refine_8 => exact fun e => (b7 e).imp fun x q => ⟨q.1, q.2.1, cell_kept q.2.2 hk (fun e => by have := hlt _ e; have := q.2.1; omega)⟩
  case refine_9 => exact fun e => (b8 e).imp fun x q => ⟨q.1, q.2.1, cell_kept q.2.2.1 hk (fun e => by have := hlt _ e; have := q.2.1; omega), cell_kept q.2.2.2 hk (fun e => by have := hlt _ e; have := q.2.1; omega)⟩
theorem JPL.added26 (h : JPL B n0 pb F1 F2 F3 v1 v2 v3 r s bits w0 vs L u w G1 G2 G3) (hvs : vs.getD 26 none = none) (hl : L 26 = false) (hst : L 35 = false) (hv0 : ∀ g, v3.ownBlock = some g → F3 g) {v : Value} {wn : World} (hv : OwnPr wn B v (r.x ++ [(0, 0)])) (hgr : w.grownBy wn v3.ownBlock) (ht : v.ownBlock = v3.ownBlock ∨ v.ownBlock = some w.heap.size) (hF : ∀ k, F1 k ∨ F2 k ∨ F3 k → k < n0 ∧ k ≠ pb) (hpb : pb < n0) (hn0 : n0 = w0.heap.size) :
    JPL B n0 pb F1 F2 F3 v1 v2 v3 r s bits w0 vs (setL L 26) (upd u 26 v) wn G1 G2 (fun k => G3 k ∨ (k = w.heap.size ∧ k < wn.heap.size)) := by
  obtain ⟨a1, a2, a3, a4, a5, a6, a7, a8, a9, b1, b2, b3, b4, b5, b6, b7, b8⟩ := id h
  have hk := grown_kept hgr
  have hz := hk.size
  have hw : n0 ≤ w.heap.size := by rw [hn0]; exact a2.size
  rw [hl] at a6
  have hG : ∀ k, v3.ownBlock = some k → G3 k := a6.2
  have hlt : ∀ k, v3.ownBlock = some k → k < n0 ∧ k ≠ pb := fun k e => hF k (.inr (.inr (hv0 k e)))
  have l1 : ∀ k, G1 k → k < w.heap.size := fun k g => by rcases a7 k g with f | f; have := hF k (.inl f); omega; omega
  have l2 : ∀ k, G2 k → k < w.heap.size := fun k g => by rcases a8 k g with f | f; have := hF k (.inr (.inl f)); omega; omega
  have l3 : ∀ k, G3 k → k < w.heap.size := fun k g => by rcases a9 k g with f | f; have := hF k (.inr (.inr f)); omega; omega
  have hbx := (hk.block pb (by omega) (fun e => (hlt _ e).2 rfl)).trans a3
  refine ⟨h.vals' hvs, a2.trans (hk.mono fun k e => .inr (.inr (.inl (hv0 k e)))), ?_, ?_, ?_, ?_, fun k g => (a7 k g).imp id fun q => ⟨q.1, by omega⟩, fun k g => (a8 k g).imp id fun q => ⟨q.1, by omega⟩, fun k g => by rcases g with g | g; exact (a9 k g).imp id fun q => ⟨q.1, by omega⟩; exact .inr (by omega), b1, fun k g f => by rcases f with f | f; exact b2 k g f; have := l1 k g; omega, fun k g f => by rcases f with f | f; exact b3 k g f; have := l2 k g; omega, ?_, ?_, ?_, ?_, ?_⟩
  all_goals try simp only [setL_ne (L := L) (i := 26) (show 8 ≠ 26 by decide), setL_ne (L := L) (i := 26) (show 9 ≠ 26 by decide), setL_ne (L := L) (i := 26) (show 17 ≠ 26 by decide), setL_ne (L := L) (i := 26) (show 18 ≠ 26 by decide), setL_ne (L := L) (i := 26) (show 19 ≠ 26 by decide), setL_ne (L := L) (i := 26) (show 25 ≠ 26 by decide), setL_ne (L := L) (i := 26) (show 29 ≠ 26 by decide), setL_ne (L := L) (i := 26) (show 32 ≠ 26 by decide), setL_ne (L := L) (i := 26) (show 35 ≠ 26 by decide), upd_ne (u := u) (i := 26) (show 8 ≠ 26 by decide), upd_ne (u := u) (i := 26) (show 9 ≠ 26 by decide), upd_ne (u := u) (i := 26) (show 17 ≠ 26 by decide), upd_ne (u := u) (i := 26) (show 18 ≠ 26 by decide), upd_ne (u := u) (i := 26) (show 19 ≠ 26 by decide), upd_ne (u := u) (i := 26) (show 25 ≠ 26 by decide)]
  case refine_1 => rw [hst] at hbx ⊢; exact hbx
  case refine_2 => exact a4.off hk (fun k f e => b2 k f (hG k e))
  case refine_3 => exact a5.off hk (fun k f e => b3 k f (hG k e))
  case refine_4 =>
    rw [setL_eq, upd_eq]
    exact ⟨hv, fun g e => by rcases ht with t | t; exact .inl (hG g (t ▸ e)); exact .inr ⟨by have q := t.symm.trans e; injection q with q; exact q.symm, (OwnD.lt hv g e).2⟩⟩
  case refine_5 => exact fun e => (b4 e).imp fun x q => ⟨q.1, q.2.1, cell_kept q.2.2 hk (fun e => by have := hlt _ e; have := q.2.1; omega)⟩
  case refine_6 => exact fun e => (b5 e).off hk fun g eg e => by have := hlt _ e; have := (OwnS.lt (b5 ‹_›) g eg).1; omega
  case refine_7 => exact fun e e2 g eg => by obtain ⟨x, y, z⟩ := b6 e e2 g eg; have := (OwnS.lt (b5 e) g eg).2; exact ⟨x, y, fun q => by rcases q with q | q; exact z q; omega⟩
  case refine_8 => exact fun e => (b7 e).imp fun x q => ⟨q.1, q.2.1, cell_kept q.2.2 hk (fun e => by have := hlt _ e; have := q.2.1; omega)⟩
  case refine_9 => exact fun e => (b8 e).imp fun x q => ⟨q.1, q.2.1, cell_kept q.2.2.1 hk (fun e => by have := hlt _ e; have := q.2.1; omega), cell_kept q.2.2.2 hk (fun e => by have := hlt _ e; have := q.2.1; omega)⟩
end
end Go.Proofs.Ytpieaeokbblflaa
