/- How often the guess of a bit is right in a chain: the law's side; conditions: none. -/
import Derived.Test.YtjeaeninpmaoiaaJ7
namespace Go.Proofs.Ytjeaeninpmaoiaa
open Go.RowKit

def bx (a b : Nat) : Nat := (a + b) % 2
def bN (j k : Nat) : Nat := k / 2 ^ j % 2
theorem bN_le (j k : Nat) : bN j k ≤ 1 := by unfold bN; omega
theorem bx_le (a b : Nat) : bx a b ≤ 1 := by unfold bx; omega
theorem bits_bx (a b : Nat) (ha : a ≤ 1) (hb : b ≤ 1) : bits .xor .i64 (a : Int) (b : Int) = ((bx a b : Nat) : Int) := by
  have h1 : a = 0 ∨ a = 1 := by omega
  have h2 : b = 0 ∨ b = 1 := by omega
  rcases h1 with rfl | rfl <;> rcases h2 with rfl | rfl <;> decide
theorem band1 (a : Nat) (h : a < 100) : bits .and .i64 (a : Int) 1 = ((a % 2 : Nat) : Int) := by
  have := and1_nat a (by omega)
  rw [this]
  simp [bitAt]
theorem bandN (k c j : Nat) (h : k < 100) (hc : c = 2 ^ j) : bits .and .i64 ((k : Int) / (c : Nat)) 1 = ((bN j k : Nat) : Int) := by
  subst hc
  have := and1_div k j (by omega)
  simpa [bitAt, bN] using this

/-- one term: the guess out of the answers 'near' at, far and up -/
def tT (r : BoxD) (p kb s u N O a f z : Nat) : Int :=
  if bx (bx (bx (if p = 1 then bx u f else bx s (a / 2)) (z / 2)) (z % 2)) (a % 2) = kb then
    cellB r N a * (cellB r O (2 * f) + cellB r O (2 * f + 1)) * cellB r (bx (bx s (a / 2)) (bx u f) * 2 + p) z
  else 0
def sumT (f : Nat → Int) : Nat → Int
  | 0 => 0
  | n + 1 => sumT f n + f n
def fS (r : BoxD) (p kb s u N O : Nat) : Nat → Int := fun q => tT r p kb s u N O (q / 8) (q / 4 % 2) (q % 4)

theorem chain_cell {r : BoxD} (hc : chainB r = true) {q : Nat} (hq : q < 4) (j : Nat) : 0 ≤ cellB r q j ∧ cellB r q j ≤ 100 := by
  unfold chainB at hc
  simp only [Bool.and_eq_true, decide_eq_true_eq] at hc
  obtain ⟨hp, -, hw⟩ := hc
  obtain ⟨hbb, -, -, hlen⟩ := pairB_facts hp
  obtain ⟨-, -, -, -, hf⟩ := boxB_size hbb
  have hql : q < r.r.length := by omega
  have hm := hf _ (List.getElem_mem hql)
  have e : rowB r q = r.r[q] := by simp [rowB, hql]
  unfold fourB at hm
  simp only [Bool.and_eq_true, beq_iff_eq, List.all_eq_true, inB_iff] at hm
  unfold cellB
  rw [e]
  by_cases hj : j < r.r[q].length
  · have := hm.2.1 _ (List.getElem_mem hj)
    simp [List.getD, hj]
    omega
  · simp [List.getD, Nat.le_of_not_lt hj]
theorem mul_bound {a b A B : Int} (ha : 0 ≤ a ∧ a ≤ A) (hb : 0 ≤ b ∧ b ≤ B) : 0 ≤ a * b ∧ a * b ≤ A * B :=
  ⟨Int.mul_nonneg ha.1 hb.1, Int.mul_le_mul ha.2 hb.2 hb.1 (by omega)⟩
theorem tT_bound {r : BoxD} (hc : chainB r = true) {p kb s u N O a f z : Nat} (hp : p ≤ 1) (hN : N < 4) (hO : O < 4) : 0 ≤ tT r p kb s u N O a f z ∧ tT r p kb s u N O a f z ≤ 2000000 := by
  unfold tT
  generalize (if p = 1 then bx u f else bx s (a / 2)) = q1
  split
  · have h1 := chain_cell hc hN a
    have h2 := chain_cell hc hO (2 * f)
    have h3 := chain_cell hc hO (2 * f + 1)
    have hd := bx_le (bx s (a / 2)) (bx u f)
    have h4 := chain_cell hc (show bx (bx s (a / 2)) (bx u f) * 2 + p < 4 by omega) z
    have h5 := mul_bound h1 (show 0 ≤ cellB r O (2 * f) + cellB r O (2 * f + 1) ∧ cellB r O (2 * f) + cellB r O (2 * f + 1) ≤ 200 by omega)
    have h6 := mul_bound h5 h4
    exact ⟨h6.1, Int.le_trans h6.2 (by decide)⟩
  · omega
theorem sumT_bound {F : Nat → Int} (h : ∀ q, 0 ≤ F q ∧ F q ≤ 2000000) : ∀ n, 0 ≤ sumT F n ∧ sumT F n ≤ 2000000 * n
  | 0 => by simp [sumT]
  | n + 1 => by
    have h1 := sumT_bound h n
    have h2 := h n
    unfold sumT
    omega
theorem row_at {w : World} {r : BoxD} {q bl off cap : Nat} (h : Ints w (.slice (some ⟨bl, off, none⟩) 4 cap) (rowB r q)) (hl : (rowB r q).length = 4) (j : Nat) (hj : j < 4) :
    bl < w.heap.size ∧ w.cell? ⟨bl, off + j, none⟩ = some (.int .i64 (cellB r q j)) := by
  obtain ⟨_, _, e, hb, c⟩ := h.at j (by omega)
  cases e
  refine ⟨hb, ?_⟩
  rw [c]
  simp [cellB, List.getD, show j < (rowB r q).length by omega]
theorem row_form {w : World} {v : Value} {r : BoxD} {q : Nat} (h : Ints w v (rowB r q)) (hl : (rowB r q).length = 4) : ∃ bl off cap, v = .slice (some ⟨bl, off, none⟩) 4 cap := by
  obtain ⟨bl, off, cap, e, -⟩ := row_cells h hl
  exact ⟨bl, off, cap, e⟩


def rightV (r : BoxD) (k i : Nat) : Int := sumT (fS r (i / 2) (bN i k) (bN (2 * (i / 2)) k) (bN (2 - 2 * (i / 2)) k) (bx (bN (2 * (i / 2)) k) (bN (2 * (i / 2) + 1) k) * 2 + i % 2) (bx (bN (2 - 2 * (i / 2)) k) (bN (3 - 2 * (i / 2)) k) * 2 + 0)) 32

set_option maxRecDepth 100000 in
set_option maxHeartbeats 8000000 in
theorem c_l9Right0 (v : Value) (r : BoxD) (k : Nat) (w : World) (h : BoxR w v r) (hc : chainB r = true) (hk : k < 16) :
    Calls Try.prog 81 #[v, .int .i64 k, .int .i64 0] w fun e w' => e = .returned (.int .i64 (rightV r k 0)) ∧ Below w.heap.size w w' := by
  obtain ⟨v4, rfl, hr⟩ := id h
  obtain ⟨a4, k4, rfl, l4⟩ := hr.out
  have hA := (Below.refl w.heap.size w).alloc (Nat.le_refl _) (.cells #[.int .i64 r.x, .int .i64 r.y, .int .i64 r.w, .slice a4 r.r.length k4] 50)
  have pB : (w.alloc (.cells #[.int .i64 r.x, .int .i64 r.y, .int .i64 r.w, .slice a4 r.r.length k4] 50)).heap[w.heap.size]? = some (.cells #[.int .i64 r.x, .int .i64 r.y, .int .i64 r.w, .slice a4 r.r.length k4] 50 (0, 0)) := heap_alloc_at rfl
  have hp : pairB r = true := by unfold chainB at hc; simp only [Bool.and_eq_true] at hc; exact hc.1
  obtain ⟨hbb, hxx, hyy, hlen⟩ := pairB_facts hp
  have hl4 := fun q (hq : q < 4) => (boxB_row hbb (show q < r.r.length by omega)).1
  have hcl := fun q (hq : q < 4) => chain_cell hc hq
  clear hp
  replace hbb := Lib.hid hbb
  replace hlen := Lib.hid hlen
  replace hxx := Lib.hid hxx
  replace hyy := Lib.hid hyy
  replace hc := Lib.hid hc
  replace hl4 := Lib.hid hl4
  replace hcl := Lib.hid hcl
  obtain ⟨s, hs⟩ : ∃ s, s = bN 0 k := ⟨_, rfl⟩
  obtain ⟨t, ht⟩ : ∃ t, t = bN 1 k := ⟨_, rfl⟩
  obtain ⟨c, hu⟩ : ∃ c, c = bN 2 k := ⟨_, rfl⟩
  obtain ⟨d, hv⟩ : ∃ d, d = bN 3 k := ⟨_, rfl⟩
  obtain ⟨kb, hkb⟩ : ∃ kb, kb = bN 0 k := ⟨_, rfl⟩
  have ls : s ≤ 1 := hs ▸ bN_le _ _
  have lt : t ≤ 1 := ht ▸ bN_le _ _
  have lu : c ≤ 1 := hu ▸ bN_le _ _
  have lv : d ≤ 1 := hv ▸ bN_le _ _
  have bs : bits .and .i64 (k : Int) 1 = (s : Int) := by rw [hs]; have := bandN k (2 ^ 0) 0 (by omega) rfl; simpa using this
  have bt : bits .and .i64 ((k : Int) / 2) 1 = (t : Int) := by rw [ht]; have := bandN k (2 ^ 1) 1 (by omega) rfl; simpa using this
  have bu : bits .and .i64 ((k : Int) / 4) 1 = (c : Int) := by rw [hu]; have := bandN k (2 ^ 2) 2 (by omega) rfl; simpa using this
  have bv : bits .and .i64 ((k : Int) / 8) 1 = (d : Int) := by rw [hv]; have := bandN k (2 ^ 3) 3 (by omega) rfl; simpa using this
  have bk : bits .and .i64 (k : Int) 1 = (kb : Int) := by rw [hkb]; have := bandN k (2 ^ 0) 0 (by omega) rfl; simpa using this
  have lx := bx_le s t
  have ly := bx_le c d
  have xst := bits_bx s t ls lt
  have xuv := bits_bx c d lu lv
  obtain ⟨F, hF⟩ : ∃ F, F = fS r 0 kb s c (bx s t * 2 + 0) (bx c d * 2 + 0) := ⟨_, rfl⟩
  have hRes : Hid (rightV r k 0 = sumT F 32) := Lib.hid (by rw [hF, hs, ht, hu, hv, hkb]; rfl)
  obtain ⟨x, hx⟩ : ∃ x, x = bx s t := ⟨_, rfl⟩
  obtain ⟨y, hy⟩ : ∃ y, y = bx c d := ⟨_, rfl⟩
  rw [← hx] at lx xst hF
  rw [← hy] at ly xuv hF
  have hFb := sumT_bound (F := F) (fun q => by rw [hF]; exact tT_bound hc.out (by decide) (by omega) (by omega))
  obtain ⟨vN, iN, kN⟩ := at_l2Row _ r x 0 2 w h hyy.out (by omega) (by rw [hlen.out]; omega)
  obtain ⟨vO, iO, kO⟩ := at_l2Row _ r y 0 2 w h hyy.out (by omega) (by rw [hlen.out]; omega)
  obtain ⟨blN, offN, capN, rfl⟩ := row_form iN (hl4.out _ (by omega))
  obtain ⟨blO, offO, capO, rfl⟩ := row_form iO (hl4.out _ (by omega))
  have kD := fun e (he : e ≤ 1) => at_l2Row _ r e 0 2 w h hyy.out (by omega) (by rw [hlen.out]; omega)
  replace hs := Lib.hid hs
  replace ht := Lib.hid ht
  replace hu := Lib.hid hu
  replace hv := Lib.hid hv
  replace hkb := Lib.hid hkb
  replace hF := Lib.hid hF
  replace hFb := Lib.hid hFb
  replace hx := Lib.hid hx
  replace hy := Lib.hid hy
  replace iN := Lib.hid iN
  replace kN := Lib.hid kN
  replace iO := Lib.hid iO
  replace kO := Lib.hid kO
  replace kD := Lib.hid kD
  go_enter Try.func81, Try.ntmps81
  have hBd := fun a b => below_drewN (below_drewN (Below.refl (w.heap.size + 1) (w.alloc (.cells #[.int .i64 r.x, .int .i64 r.y, .int .i64 r.w, .slice a4 r.r.length k4] 50))) a) b
  go_wp2_with fail
  go_quiet (fail)
  all_goals go_wp2_with fail
  go_quiet (fail)
  all_goals go_wp2_with fail
  generalize hwd : World.drewN (World.drewN _ _) _ = wd
  replace hBd : Below (w.heap.size + 1) (w.alloc (.cells #[.int .i64 r.x, .int .i64 r.y, .int .i64 r.w, .slice a4 r.r.length k4] 50)) wd := hwd ▸ hBd _ _
  clear hwd
  have hszd := hBd.size
  simp only [World.size_alloc] at hszd
  have halld := hA.trans (hBd.mono (by omega))
  obtain ⟨⟨z0, z1, z2, z3⟩, -⟩ := blk4 ((hBd.block _ (by omega)).trans pB)
  clear bs bt bu bv
  refine wp_region_rk (by kernel_rfl) [none, none, none, none, none, none, none, none, none, none, none, none, none, some 12, some 13, none, none, none, none, none, none, none, none, none, none, none, none, none, none, none, none, none, none, none, none, none, none, none, none, none, none, none, none, none, none, none, none, none, some 0, some 1, some 2, some 3, some 4, some 5, some 6, some 7, some 8, some 9, some 10, some 11] 13 (by kernel_rfl) (by kernel_rfl) (by kernel_rfl) _ rfl w.heap.size [rkV (.agg #[.int .i64 r.x, .int .i64 r.y, .int .i64 r.w, .slice a4 r.r.length k4]), rkV (.int .i64 (s : Int)), rkV (.int .i64 (t : Int)), rkV (.int .i64 (x : Int)), rkV (.int .i64 0), rkV (.int .i64 0), rkV (.slice (some ⟨blN, offN, none⟩) 4 capN), rkV (.agg #[.int .i64 r.x, .int .i64 r.y, .int .i64 r.w, .slice a4 r.r.length k4]), rkV (.int .i64 (c : Int)), rkV (.int .i64 (d : Int)), rkV (.int .i64 (y : Int)), rkV (.slice (some ⟨blO, offO, none⟩) 4 capO), rkV (.slice (some ⟨blN, offN, none⟩) 4 capN)] _ rfl (by kernel_rfl) (by simp) ?_ ?_
  · intro i o ho hi u g ww hbw hd
    have hall : Below w.heap.size w ww := halld.trans (hbw.mono (by omega))
    have hlow : w.heap.size ≤ ww.heap.size := hall.size
    obtain ⟨hcl, hfr⟩ := bcell hbw
    have y_z0 := (hcl _ _ (by omega)).trans z0
    have y_z1 := (hcl _ _ (by omega)).trans z1
    have y_z2 := (hcl _ _ (by omega)).trans z2
    have y_z3 := (hcl _ _ (by omega)).trans z3
    clear hcl hfr
    rcases i with _ | _ | _ | _ | _ | _ | _ | _ | _ | _ | _ | _ | _ | _ | i
    all_goals try obtain rfl := Option.some.inj ho
    all_goals try simp only [putAll, fillL]
    · go_wp2
      exact ⟨_, rfl, kept0 (Below.refl _ _), rfl⟩
    · go_wp2
      exact ⟨_, rfl, kept0 (Below.refl _ _), rfl⟩
    · go_wp2
      exact ⟨_, rfl, kept0 (Below.refl _ _), rfl⟩
    · have e1 : u 1 = .int .i64 (s : Int) := hd 1 (by decide)
      rw [e1]
      have e2 : u 2 = .int .i64 (t : Int) := hd 2 (by decide)
      rw [e2]
      go_wp2
      exact ⟨_, by simp only [putAll, fillL, e1, e2] <;> rfl, kept0 (Below.refl _ _), rfl⟩
    · go_wp2
      exact ⟨_, rfl, kept0 (Below.refl _ _), rfl⟩
    · have e4 : u 4 = .int .i64 0 := hd 4 (by decide)
      rw [e4]
      go_wp2
      exact ⟨_, by simp only [putAll, fillL, e4] <;> rfl, kept0 (Below.refl _ _), rfl⟩
    · have e0 : u 0 = .agg #[.int .i64 r.x, .int .i64 r.y, .int .i64 r.w, .slice a4 r.r.length k4] := hd 0 (by decide)
      rw [e0]
      have e3 : u 3 = .int .i64 (x : Int) := hd 3 (by decide)
      rw [e3]
      have e5 : u 5 = .int .i64 0 := hd 5 (by decide)
      rw [e5]
      go_wp2_with fail
      refine (kN.out _ hall).mono ?_
      rintro e wn ⟨rfl, hbn⟩
      go_wp2
      exact ⟨_, by simp only [putAll, fillL, e0, e3, e5] <;> rfl, kept0 hbn, rfl⟩
    · go_wp2
      exact ⟨_, rfl, kept0 (Below.refl _ _), rfl⟩
    · go_wp2
      exact ⟨_, rfl, kept0 (Below.refl _ _), rfl⟩
    · go_wp2
      exact ⟨_, rfl, kept0 (Below.refl _ _), rfl⟩
    · have e8 : u 8 = .int .i64 (c : Int) := hd 8 (by decide)
      rw [e8]
      have e9 : u 9 = .int .i64 (d : Int) := hd 9 (by decide)
      rw [e9]
      go_wp2
      exact ⟨_, by simp only [putAll, fillL, e8, e9] <;> rfl, kept0 (Below.refl _ _), rfl⟩
    · have e7 : u 7 = .agg #[.int .i64 r.x, .int .i64 r.y, .int .i64 r.w, .slice a4 r.r.length k4] := hd 7 (by decide)
      rw [e7]
      have e10 : u 10 = .int .i64 (y : Int) := hd 10 (by decide)
      rw [e10]
      go_wp2_with fail
      refine (kO.out _ hall).mono ?_
      rintro e wn ⟨rfl, hbn⟩
      go_wp2
      exact ⟨_, by simp only [putAll, fillL, e7, e10] <;> rfl, kept0 hbn, rfl⟩
    · have e6 : u 6 = .slice (some ⟨blN, offN, none⟩) 4 capN := hd 6 (by decide)
      rw [e6]
      go_wp2
      exact ⟨_, by simp only [putAll, fillL, e6] <;> rfl, kept0 (Below.refl _ _), rfl⟩
    · exact absurd rfl hi
    · simp at ho
  · intro uu g w5 hbw hR hAp
    have e12 : uu 12 = .slice (some ⟨blN, offN, none⟩) 4 capN := hR 12 (by decide) (by decide)
    have e11 : uu 11 = .slice (some ⟨blO, offO, none⟩) 4 capO := hR 11 (by decide) (by decide)
    have hB5 := hBd.trans (hbw.mono (by omega))
    clear hR hAp z0 z1 z2 z3 hbw hBd halld xst xuv
    simp only [putAll, fillL]
    rw [e12, e11]
    clear e12 e11
    go_wp2_with fail
    have hsz5 := hB5.size
    simp only [World.size_alloc] at hsz5
    have lblN := (row_at iN.out (hl4.out _ (by omega)) 0 (by decide)).1
    have lblO := (row_at iO.out (hl4.out _ (by omega)) 0 (by decide)).1
    go_loopw [8, 15] (fun sm a wr => ∃ a1 : Nat, a1 ≤ 4 ∧ a = .int .i64 a1 ∧ sm = .int .i64 (sumT F (8 * a1)) ∧ Below (w.heap.size + 1) (w.alloc (.cells #[.int .i64 r.x, .int .i64 r.y, .int .i64 r.w, .slice a4 r.r.length k4] 50)) wr) (fun _ a _ => 4 - (intOf a).toNat)
    case atStart => exact ⟨0, by omega, rfl, rfl, hB5⟩
    case round =>
      clear hB5
      obtain ⟨a1, ha1, rfl, rfl, hB⟩ := hrel
      have hbA := hFb.out (8 * a1)
      by_cases hla : a1 < 4
      · have hda : decide ((a1 : Int) < 4) = true := by simp; omega
        go_wp2_with fail
        go_loopw [8, 16] (fun sm a wr => ∃ f1 : Nat, f1 ≤ 2 ∧ a = .int .i64 f1 ∧ sm = .int .i64 (sumT F (8 * a1 + 4 * f1)) ∧ Below (w.heap.size + 1) (w.alloc (.cells #[.int .i64 r.x, .int .i64 r.y, .int .i64 r.w, .slice a4 r.r.length k4] 50)) wr) (fun _ a _ => 2 - (intOf a).toNat)
        case atStart => exact ⟨0, by omega, rfl, rfl, hB⟩
        case round =>
          clear hB
          obtain ⟨f1, hf1, rfl, rfl, hB⟩ := hrel
          have hbF := hFb.out (8 * a1 + 4 * f1)
          by_cases hlf : f1 < 2
          · have hdf : decide ((f1 : Int) < 2) = true := by simp; omega
            obtain ⟨ah, hah⟩ : ∃ q, q = a1 / 2 := ⟨_, rfl⟩
            have lah : ah ≤ 1 := by omega
            have dah : (a1 : Int) / 2 = (ah : Int) := by omega
            obtain ⟨m, hm⟩ : ∃ q, q = bx s ah := ⟨_, rfl⟩
            obtain ⟨n, hn⟩ : ∃ q, q = bx c f1 := ⟨_, rfl⟩
            obtain ⟨dd, hdd⟩ : ∃ q, q = bx m n := ⟨_, rfl⟩
            have lm : m ≤ 1 := hm ▸ bx_le _ _
            have ln : n ≤ 1 := hn ▸ bx_le _ _
            have ld : dd ≤ 1 := hdd ▸ bx_le _ _
            have xm : bits .xor .i64 (s : Int) (ah : Int) = (m : Int) := by rw [hm]; exact bits_bx s ah ls lah
            have xn : bits .xor .i64 (c : Int) (f1 : Int) = (n : Int) := by rw [hn]; exact bits_bx c f1 lu (by omega)
            have xd : bits .xor .i64 (m : Int) (n : Int) = (dd : Int) := by rw [hdd]; exact bits_bx m n lm ln
            obtain ⟨vD, iD, kD2⟩ := kD.out dd ld
            obtain ⟨blD, offD, capD, rfl⟩ := row_form iD (hl4.out _ (by omega))
            have lblD := (row_at iD (hl4.out _ (by omega)) 0 (by decide)).1
            replace iD := Lib.hid iD
            replace kD2 := Lib.hid kD2
            replace hah := Lib.hid hah
            replace hm := Lib.hid hm
            replace hn := Lib.hid hn
            replace hdd := Lib.hid hdd
            have hszr := hB.size
            simp only [World.size_alloc] at hszr
            have hall := hA.trans (hB.mono (by omega))
            obtain ⟨⟨z0, z1, z2, z3⟩, -⟩ := blk4 ((hB.block _ (by omega)).trans pB)
            go_wp2_with fail
            refine (kD2.out _ hall).mono ?_
            clear z0 z1 z2 z3
            rintro e w6 ⟨rfl, hb6⟩
            have hB6 := hB.trans (hb6.mono (by omega))
            clear hB hb6 hall dah xm xn xd
            go_wp2_with fail
            go_loopw [8, 21] (fun sm a wr => ∃ z : Nat, z ≤ 4 ∧ a = .int .i64 z ∧ sm = .int .i64 (sumT F (8 * a1 + 4 * f1 + z)) ∧ Below (w.heap.size + 1) (w.alloc (.cells #[.int .i64 r.x, .int .i64 r.y, .int .i64 r.w, .slice a4 r.r.length k4] 50)) wr) (fun _ a _ => 4 - (intOf a).toNat)
            case atStart => exact ⟨0, by omega, rfl, rfl, hB6⟩
            case round =>
              clear hB6
              obtain ⟨z, hz, rfl, rfl, hB⟩ := hrel
              have hbZ := hFb.out (8 * a1 + 4 * f1 + z)
              by_cases hlz : z < 4
              · have hdz : decide ((z : Int) < 4) = true := by simp; omega
                obtain ⟨sm, hsm⟩ : ∃ q, q = sumT F (8 * a1 + 4 * f1 + z) := ⟨_, rfl⟩
                obtain ⟨qN, hqN⟩ : ∃ q, q = cellB r (x * 2 + 0) a1 := ⟨_, rfl⟩
                obtain ⟨q0, hq0⟩ : ∃ q, q = cellB r (y * 2 + 0) (2 * f1) := ⟨_, rfl⟩
                obtain ⟨q1, hq1⟩ : ∃ q, q = cellB r (y * 2 + 0) (2 * f1 + 1) := ⟨_, rfl⟩
                obtain ⟨qD, hqD⟩ : ∃ q, q = cellB r (dd * 2 + 0) z := ⟨_, rfl⟩
                obtain ⟨zh, hzh⟩ : ∃ q, q = z / 2 := ⟨_, rfl⟩
                obtain ⟨zl, hzl⟩ : ∃ q, q = z % 2 := ⟨_, rfl⟩
                obtain ⟨al, hal⟩ : ∃ q, q = a1 % 2 := ⟨_, rfl⟩
                obtain ⟨g1, hg1⟩ : ∃ q, q = bx m zh := ⟨_, rfl⟩
                obtain ⟨g2, hg2⟩ : ∃ q, q = bx g1 zl := ⟨_, rfl⟩
                obtain ⟨g3, hg3⟩ : ∃ q, q = bx g2 al := ⟨_, rfl⟩
                have hT : F (8 * a1 + 4 * f1 + z) = if g3 = kb then qN * (q0 + q1) * qD else 0 := by
                  rw [hF.out]
                  unfold fS tT
                  rw [show (8 * a1 + 4 * f1 + z) / 8 = a1 by omega, show (8 * a1 + 4 * f1 + z) / 4 % 2 = f1 by omega, show (8 * a1 + 4 * f1 + z) % 4 = z by omega]
                  rw [hg3, hg2, hg1, hqN, hq0, hq1, hqD, hdd.out, hm.out, hn.out, hah.out, hzh, hzl, hal]
                  rfl
                have hst : sumT F (8 * a1 + 4 * f1 + (z + 1)) = sm + F (8 * a1 + 4 * f1 + z) := by rw [hsm]; rfl
                rw [hT] at hst
                have bN1 : 0 ≤ qN ∧ qN ≤ 100 := hqN ▸ hcl.out _ (by omega) _
                have bO0 : 0 ≤ q0 ∧ q0 ≤ 100 := hq0 ▸ hcl.out _ (by omega) _
                have bO1 : 0 ≤ q1 ∧ q1 ≤ 100 := hq1 ▸ hcl.out _ (by omega) _
                have bD : 0 ≤ qD ∧ qD ≤ 100 := hqD ▸ hcl.out _ (by omega) _
                have bP1 := mul_bound bN1 (show 0 ≤ q0 + q1 ∧ q0 + q1 ≤ 200 by omega)
                have bP2 := mul_bound bP1 bD
                have dzh : (z : Int) / 2 = (zh : Int) := by omega
                have dzl : bits .and .i64 (z : Int) 1 = (zl : Int) := by rw [hzl]; exact band1 z (by omega)
                have dal : bits .and .i64 (a1 : Int) 1 = (al : Int) := by rw [hal]; exact band1 a1 (by omega)
                have lg1 : g1 ≤ 1 := hg1 ▸ bx_le _ _
                have lg2 : g2 ≤ 1 := hg2 ▸ bx_le _ _
                have xg1 : bits .xor .i64 (m : Int) (zh : Int) = (g1 : Int) := by rw [hg1]; exact bits_bx _ zh (by omega) (by omega)
                have xg2 : bits .xor .i64 (g1 : Int) (zl : Int) = (g2 : Int) := by rw [hg2]; exact bits_bx g1 zl lg1 (by omega)
                have xg3 : bits .xor .i64 (g2 : Int) (al : Int) = (g3 : Int) := by rw [hg3]; exact bits_bx g2 al lg2 (by omega)
                rw [← hsm] at hbZ ⊢
                have hszr := hB.size
                simp only [World.size_alloc] at hszr
                have hall0 := hA.trans (hB.mono (by omega))
                have cN := (row_at (iN.out.below hall0) (hl4.out _ (by omega)) a1 hla).2
                have cO := (row_at (iO.out.below hall0) (hl4.out _ (by omega)) (2 * f1) (by omega)).2
                have cO1 := (row_at (iO.out.below hall0) (hl4.out _ (by omega)) (2 * f1 + 1) (by omega)).2
                have cD := (row_at (iD.out.below hall0) (hl4.out _ (by omega)) z hlz).2
                rw [← hqN] at cN
                rw [← hq0] at cO
                rw [← hq1] at cO1
                rw [← hqD] at cD
                clear hT hqN hq0 hq1 hqD hzh hzl hal hg1 hg2 hg3
                replace hst := Lib.hid hst
                replace hsm := Lib.hid hsm
                cases hg : ((g3 : Int) == (kb : Int))
                · have hst2 : Hid (sumT F (8 * a1 + 4 * f1 + (z + 1)) = sm) := Lib.hid (by rw [hst.out, if_neg (by have := beq_eq_false_iff_ne.1 hg; omega)]; omega)
                  clear cN cO cO1 cD bP1 bP2
                  go_wp2
                  go_roundw
                  case rel => first | exact ⟨z + 1, by omega, by go_num, by rw [hst2.out], hB⟩ | ((repeat apply Exists.intro); exact ⟨⟨z + 1, by omega, rfl, by rw [hst2.out], hB⟩, rfl⟩)
                  case measure => simp [intOf]; omega
                · have hst2 : Hid (sumT F (8 * a1 + 4 * f1 + (z + 1)) = sm + qN * (q0 + q1) * qD) := Lib.hid (by rw [hst.out, if_pos (by have := eq_of_beq hg; omega)])
                  go_wp2_with fail
                  clear dzh dzl dal xg1 xg2 xg3 bk hg
                  refine wp_region_rkt (by kernel_rfl) [none, none, none, none, none, none, none, none, some 24, none, none, none, none, none, none, none, none, none, none, none, none, none, none, none, none, none, none, none, none, none, none, none, none, none, none, none, none, none, none, none, none, none, none, none, none, none, none, none, none, none, none, none, none, none, none, none, none, none, none, none, none, none, none, none, none, none, none, none, none, none, none, none, none, none, none, none, none, none, none, none, none, none, none, none, none, none, none, none, none, none, none, none, none, none, none, none, none, none, none, none, none, none, none, none, none, some 0, some 1, some 2, some 3, some 4, some 5, some 6, some 7, some 8, some 9, some 10, some 11, some 12, some 13, some 14, some 15, some 16, some 17, some 18, some 19, some 20, some 21, some 22, some 23] 23 24 (by kernel_rfl) (by kernel_rfl) (by kernel_rfl) _ _ rfl rfl 8 rfl w.heap.size [rkV (.int .i64 sm), rkV (.slice (some ⟨blN, offN, none⟩) 4 capN), rkV (.int .i64 (a1 : Int)), rkV (.pointer (some ⟨blN, offN + a1, none⟩)), rkV (.int .i64 qN), rkV (.slice (some ⟨blO, offO, none⟩) 4 capO), rkV (.int .i64 (f1 : Int)), rkV (.int .i64 (2 * (f1 : Int))), rkV (.pointer (some ⟨blO, offO + 2 * f1, none⟩)), rkV (.int .i64 q0), rkV (.slice (some ⟨blO, offO, none⟩) 4 capO), rkV (.int .i64 (f1 : Int)), rkV (.int .i64 (2 * (f1 : Int))), rkV (.int .i64 (2 * (f1 : Int) + 1)), rkV (.pointer (some ⟨blO, offO + (2 * f1 + 1), none⟩)), rkV (.int .i64 q1), rkV (.int .i64 (q0 + q1)), rkV (.int .i64 (qN * (q0 + q1))), rkV (.slice (some ⟨blD, offD, none⟩) 4 capD), rkV (.int .i64 (z : Int)), rkV (.pointer (some ⟨blD, offD + z, none⟩)), rkV (.int .i64 qD), rkV (.int .i64 (qN * (q0 + q1) * qD))] _ rfl (by kernel_rfl) (by simp) ?_ ?_
                  · intro i o ho hi hi2 u g ww hbw hu2 hd
                    replace hu2 : u 24 = .int .i64 sm := hu2
                    have hall : Below w.heap.size w ww := hall0.trans (hbw.mono (by omega))
                    have hlow : w.heap.size ≤ ww.heap.size := hall.size
                    obtain ⟨hcl, hfr⟩ := bcell hbw
                    have y_cN := (hcl _ _ (by omega)).trans cN
                    have y_cO := (hcl _ _ (by omega)).trans cO
                    have y_cO1 := (hcl _ _ (by omega)).trans cO1
                    have y_cD := (hcl _ _ (by omega)).trans cD
                    clear hcl hfr
                    rcases i with _ | _ | _ | _ | _ | _ | _ | _ | _ | _ | _ | _ | _ | _ | _ | _ | _ | _ | _ | _ | _ | _ | _ | _ | _ | i
                    all_goals try obtain rfl := Option.some.inj ho
                    all_goals try simp only [putAll, fillL]
                    · rw [hu2]
                      go_wp2
                      exact ⟨_, by simp only [putAll, fillL, hu2] <;> rfl, kept0 (Below.refl _ _), rfl⟩
                    · go_wp2
                      exact ⟨_, by simp only [putAll, fillL, hu2] <;> rfl, kept0 (Below.refl _ _), rfl⟩
                    · go_wp2
                      exact ⟨_, by simp only [putAll, fillL, hu2] <;> rfl, kept0 (Below.refl _ _), rfl⟩
                    · have e1 : u 1 = .slice (some ⟨blN, offN, none⟩) 4 capN := hd 1 (by decide)
                      rw [e1]
                      have e2 : u 2 = .int .i64 (a1 : Int) := hd 2 (by decide)
                      rw [e2]
                      go_wp2
                      exact ⟨_, by simp only [putAll, fillL, hu2, e1, e2] <;> rfl, kept0 (Below.refl _ _), rfl⟩
                    · have e3 : u 3 = .pointer (some ⟨blN, offN + a1, none⟩) := hd 3 (by decide)
                      rw [e3]
                      go_wp2
                      exact ⟨_, by simp only [putAll, fillL, hu2, e3] <;> rfl, kept0 (Below.refl _ _), rfl⟩
                    · go_wp2
                      exact ⟨_, by simp only [putAll, fillL, hu2] <;> rfl, kept0 (Below.refl _ _), rfl⟩
                    · go_wp2
                      exact ⟨_, by simp only [putAll, fillL, hu2] <;> rfl, kept0 (Below.refl _ _), rfl⟩
                    · have e6 : u 6 = .int .i64 (f1 : Int) := hd 6 (by decide)
                      rw [e6]
                      go_wp2
                      exact ⟨_, by simp only [putAll, fillL, hu2, e6] <;> rfl, kept0 (Below.refl _ _), rfl⟩
                    · have e5 : u 5 = .slice (some ⟨blO, offO, none⟩) 4 capO := hd 5 (by decide)
                      rw [e5]
                      have e7 : u 7 = .int .i64 (2 * (f1 : Int)) := hd 7 (by decide)
                      rw [e7]
                      go_wp2
                      exact ⟨_, by simp only [putAll, fillL, hu2, e5, e7] <;> rfl, kept0 (Below.refl _ _), rfl⟩
                    · have e8 : u 8 = .pointer (some ⟨blO, offO + 2 * f1, none⟩) := hd 8 (by decide)
                      rw [e8]
                      go_wp2
                      exact ⟨_, by simp only [putAll, fillL, hu2, e8] <;> rfl, kept0 (Below.refl _ _), rfl⟩
                    · go_wp2
                      exact ⟨_, by simp only [putAll, fillL, hu2] <;> rfl, kept0 (Below.refl _ _), rfl⟩
                    · go_wp2
                      exact ⟨_, by simp only [putAll, fillL, hu2] <;> rfl, kept0 (Below.refl _ _), rfl⟩
                    · have e11 : u 11 = .int .i64 (f1 : Int) := hd 11 (by decide)
                      rw [e11]
                      go_wp2
                      exact ⟨_, by simp only [putAll, fillL, hu2, e11] <;> rfl, kept0 (Below.refl _ _), rfl⟩
                    · have e12 : u 12 = .int .i64 (2 * (f1 : Int)) := hd 12 (by decide)
                      rw [e12]
                      go_wp2
                      exact ⟨_, by simp only [putAll, fillL, hu2, e12] <;> rfl, kept0 (Below.refl _ _), rfl⟩
                    · have e10 : u 10 = .slice (some ⟨blO, offO, none⟩) 4 capO := hd 10 (by decide)
                      rw [e10]
                      have e13 : u 13 = .int .i64 (2 * (f1 : Int) + 1) := hd 13 (by decide)
                      rw [e13]
                      go_wp2
                      exact ⟨_, by simp only [putAll, fillL, hu2, e10, e13] <;> rfl, kept0 (Below.refl _ _), rfl⟩
                    · have e14 : u 14 = .pointer (some ⟨blO, offO + (2 * f1 + 1), none⟩) := hd 14 (by decide)
                      rw [e14]
                      go_wp2
                      exact ⟨_, by simp only [putAll, fillL, hu2, e14] <;> rfl, kept0 (Below.refl _ _), rfl⟩
                    · have e9 : u 9 = .int .i64 q0 := hd 9 (by decide)
                      rw [e9]
                      have e15 : u 15 = .int .i64 q1 := hd 15 (by decide)
                      rw [e15]
                      go_wp2
                      exact ⟨_, by simp only [putAll, fillL, hu2, e9, e15] <;> rfl, kept0 (Below.refl _ _), rfl⟩
                    · have e4 : u 4 = .int .i64 qN := hd 4 (by decide)
                      rw [e4]
                      have e16 : u 16 = .int .i64 (q0 + q1) := hd 16 (by decide)
                      rw [e16]
                      go_wp2
                      exact ⟨_, by simp only [putAll, fillL, hu2, e4, e16] <;> rfl, kept0 (Below.refl _ _), rfl⟩
                    · go_wp2
                      exact ⟨_, by simp only [putAll, fillL, hu2] <;> rfl, kept0 (Below.refl _ _), rfl⟩
                    · go_wp2
                      exact ⟨_, by simp only [putAll, fillL, hu2] <;> rfl, kept0 (Below.refl _ _), rfl⟩
                    · have e18 : u 18 = .slice (some ⟨blD, offD, none⟩) 4 capD := hd 18 (by decide)
                      rw [e18]
                      have e19 : u 19 = .int .i64 (z : Int) := hd 19 (by decide)
                      rw [e19]
                      go_wp2
                      exact ⟨_, by simp only [putAll, fillL, hu2, e18, e19] <;> rfl, kept0 (Below.refl _ _), rfl⟩
                    · have e20 : u 20 = .pointer (some ⟨blD, offD + z, none⟩) := hd 20 (by decide)
                      rw [e20]
                      go_wp2
                      exact ⟨_, by simp only [putAll, fillL, hu2, e20] <;> rfl, kept0 (Below.refl _ _), rfl⟩
                    · have e17 : u 17 = .int .i64 (qN * (q0 + q1)) := hd 17 (by decide)
                      rw [e17]
                      have e21 : u 21 = .int .i64 qD := hd 21 (by decide)
                      rw [e21]
                      go_wp2
                      exact ⟨_, by simp only [putAll, fillL, hu2, e17, e21] <;> rfl, kept0 (Below.refl _ _), rfl⟩
                    · exact absurd rfl hi
                    · exact absurd rfl hi2
                    · simp at ho
                  · intro uu g w7 hbw hu2 hR hAp
                    have e22 : uu 22 = .int .i64 (qN * (q0 + q1) * qD) := hR 22 (by decide) (by decide) (by decide)
                    have e0 : uu 0 = .int .i64 sm := hR 0 (by decide) (by decide) (by decide)
                    replace hu2 : uu 24 = .int .i64 sm := hu2
                    have hB7 := hB.trans (hbw.mono (by omega))
                    clear hR hAp cN cO cO1 cD hbw hB hall0
                    simp only [putAll, fillL]
                    rw [hu2, e22, e0]
                    clear hu2 e22 e0
                    go_wp2
                    go_roundw
                    case rel => first | exact ⟨z + 1, by omega, by go_num, by rw [hst2.out], hB7⟩ | ((repeat apply Exists.intro); exact ⟨⟨z + 1, by omega, rfl, by rw [hst2.out], hB7⟩, rfl⟩)
                    case measure => simp [intOf]; omega
              · obtain rfl : z = 4 := by omega
                go_wp2
                go_roundw
                case rel => first | exact ⟨f1 + 1, by omega, by go_num, by rw [show 8 * a1 + 4 * (f1 + 1) = 8 * a1 + 4 * f1 + 4 by omega], hB⟩ | ((repeat apply Exists.intro); exact ⟨⟨f1 + 1, by omega, rfl, by rw [show 8 * a1 + 4 * (f1 + 1) = 8 * a1 + 4 * f1 + 4 by omega], hB⟩, rfl⟩)
                case measure => simp [intOf]; omega
          · obtain rfl : f1 = 2 := by omega
            go_wp2
            go_roundw
            case rel => first | exact ⟨a1 + 1, by omega, by go_num, by rw [show 8 * (a1 + 1) = 8 * a1 + 4 * 2 by omega], hB⟩ | ((repeat apply Exists.intro); exact ⟨⟨a1 + 1, by omega, rfl, by rw [show 8 * (a1 + 1) = 8 * a1 + 4 * 2 by omega], hB⟩, rfl⟩)
            case measure => simp [intOf]; omega
      · obtain rfl : a1 = 4 := by omega
        have hall := hA.trans (hB.mono (by omega))
        go_wp2
        go_ret
        exact ⟨by rw [hRes.out]; rfl, hall⟩

set_option maxRecDepth 100000 in
set_option maxHeartbeats 8000000 in
theorem c_l9Right1 (v : Value) (r : BoxD) (k : Nat) (w : World) (h : BoxR w v r) (hc : chainB r = true) (hk : k < 16) :
    Calls Try.prog 81 #[v, .int .i64 k, .int .i64 1] w fun e w' => e = .returned (.int .i64 (rightV r k 1)) ∧ Below w.heap.size w w' := by
  obtain ⟨v4, rfl, hr⟩ := id h
  obtain ⟨a4, k4, rfl, l4⟩ := hr.out
  have hA := (Below.refl w.heap.size w).alloc (Nat.le_refl _) (.cells #[.int .i64 r.x, .int .i64 r.y, .int .i64 r.w, .slice a4 r.r.length k4] 50)
  have pB : (w.alloc (.cells #[.int .i64 r.x, .int .i64 r.y, .int .i64 r.w, .slice a4 r.r.length k4] 50)).heap[w.heap.size]? = some (.cells #[.int .i64 r.x, .int .i64 r.y, .int .i64 r.w, .slice a4 r.r.length k4] 50 (0, 0)) := heap_alloc_at rfl
  have hp : pairB r = true := by unfold chainB at hc; simp only [Bool.and_eq_true] at hc; exact hc.1
  obtain ⟨hbb, hxx, hyy, hlen⟩ := pairB_facts hp
  have hl4 := fun q (hq : q < 4) => (boxB_row hbb (show q < r.r.length by omega)).1
  have hcl := fun q (hq : q < 4) => chain_cell hc hq
  clear hp
  replace hbb := Lib.hid hbb
  replace hlen := Lib.hid hlen
  replace hxx := Lib.hid hxx
  replace hyy := Lib.hid hyy
  replace hc := Lib.hid hc
  replace hl4 := Lib.hid hl4
  replace hcl := Lib.hid hcl
  obtain ⟨s, hs⟩ : ∃ s, s = bN 0 k := ⟨_, rfl⟩
  obtain ⟨t, ht⟩ : ∃ t, t = bN 1 k := ⟨_, rfl⟩
  obtain ⟨c, hu⟩ : ∃ c, c = bN 2 k := ⟨_, rfl⟩
  obtain ⟨d, hv⟩ : ∃ d, d = bN 3 k := ⟨_, rfl⟩
  obtain ⟨kb, hkb⟩ : ∃ kb, kb = bN 1 k := ⟨_, rfl⟩
  have ls : s ≤ 1 := hs ▸ bN_le _ _
  have lt : t ≤ 1 := ht ▸ bN_le _ _
  have lu : c ≤ 1 := hu ▸ bN_le _ _
  have lv : d ≤ 1 := hv ▸ bN_le _ _
  have bs : bits .and .i64 (k : Int) 1 = (s : Int) := by rw [hs]; have := bandN k (2 ^ 0) 0 (by omega) rfl; simpa using this
  have bt : bits .and .i64 ((k : Int) / 2) 1 = (t : Int) := by rw [ht]; have := bandN k (2 ^ 1) 1 (by omega) rfl; simpa using this
  have bu : bits .and .i64 ((k : Int) / 4) 1 = (c : Int) := by rw [hu]; have := bandN k (2 ^ 2) 2 (by omega) rfl; simpa using this
  have bv : bits .and .i64 ((k : Int) / 8) 1 = (d : Int) := by rw [hv]; have := bandN k (2 ^ 3) 3 (by omega) rfl; simpa using this
  have bk : bits .and .i64 ((k : Int) / 2) 1 = (kb : Int) := by rw [hkb]; have := bandN k (2 ^ 1) 1 (by omega) rfl; simpa using this
  have lx := bx_le s t
  have ly := bx_le c d
  have xst := bits_bx s t ls lt
  have xuv := bits_bx c d lu lv
  obtain ⟨F, hF⟩ : ∃ F, F = fS r 0 kb s c (bx s t * 2 + 1) (bx c d * 2 + 0) := ⟨_, rfl⟩
  have hRes : Hid (rightV r k 1 = sumT F 32) := Lib.hid (by rw [hF, hs, ht, hu, hv, hkb]; rfl)
  obtain ⟨x, hx⟩ : ∃ x, x = bx s t := ⟨_, rfl⟩
  obtain ⟨y, hy⟩ : ∃ y, y = bx c d := ⟨_, rfl⟩
  rw [← hx] at lx xst hF
  rw [← hy] at ly xuv hF
  have hFb := sumT_bound (F := F) (fun q => by rw [hF]; exact tT_bound hc.out (by decide) (by omega) (by omega))
  obtain ⟨vN, iN, kN⟩ := at_l2Row _ r x 1 2 w h hyy.out (by omega) (by rw [hlen.out]; omega)
  obtain ⟨vO, iO, kO⟩ := at_l2Row _ r y 0 2 w h hyy.out (by omega) (by rw [hlen.out]; omega)
  obtain ⟨blN, offN, capN, rfl⟩ := row_form iN (hl4.out _ (by omega))
  obtain ⟨blO, offO, capO, rfl⟩ := row_form iO (hl4.out _ (by omega))
  have kD := fun e (he : e ≤ 1) => at_l2Row _ r e 0 2 w h hyy.out (by omega) (by rw [hlen.out]; omega)
  replace hs := Lib.hid hs
  replace ht := Lib.hid ht
  replace hu := Lib.hid hu
  replace hv := Lib.hid hv
  replace hkb := Lib.hid hkb
  replace hF := Lib.hid hF
  replace hFb := Lib.hid hFb
  replace hx := Lib.hid hx
  replace hy := Lib.hid hy
  replace iN := Lib.hid iN
  replace kN := Lib.hid kN
  replace iO := Lib.hid iO
  replace kO := Lib.hid kO
  replace kD := Lib.hid kD
  go_enter Try.func81, Try.ntmps81
  have hBd := fun a b => below_drewN (below_drewN (Below.refl (w.heap.size + 1) (w.alloc (.cells #[.int .i64 r.x, .int .i64 r.y, .int .i64 r.w, .slice a4 r.r.length k4] 50))) a) b
  go_wp2_with fail
  go_quiet (fail)
  all_goals go_wp2_with fail
  go_quiet (fail)
  all_goals go_wp2_with fail
  generalize hwd : World.drewN (World.drewN _ _) _ = wd
  replace hBd : Below (w.heap.size + 1) (w.alloc (.cells #[.int .i64 r.x, .int .i64 r.y, .int .i64 r.w, .slice a4 r.r.length k4] 50)) wd := hwd ▸ hBd _ _
  clear hwd
  have hszd := hBd.size
  simp only [World.size_alloc] at hszd
  have halld := hA.trans (hBd.mono (by omega))
  obtain ⟨⟨z0, z1, z2, z3⟩, -⟩ := blk4 ((hBd.block _ (by omega)).trans pB)
  clear bs bt bu bv
  refine wp_region_rk (by kernel_rfl) [none, none, none, none, none, none, none, none, none, none, none, none, none, some 12, some 13, none, none, none, none, none, none, none, none, none, none, none, none, none, none, none, none, none, none, none, none, none, none, none, none, none, none, none, none, none, none, none, none, none, some 0, some 1, some 2, some 3, some 4, some 5, some 6, some 7, some 8, some 9, some 10, some 11] 13 (by kernel_rfl) (by kernel_rfl) (by kernel_rfl) _ rfl w.heap.size [rkV (.agg #[.int .i64 r.x, .int .i64 r.y, .int .i64 r.w, .slice a4 r.r.length k4]), rkV (.int .i64 (s : Int)), rkV (.int .i64 (t : Int)), rkV (.int .i64 (x : Int)), rkV (.int .i64 1), rkV (.int .i64 1), rkV (.slice (some ⟨blN, offN, none⟩) 4 capN), rkV (.agg #[.int .i64 r.x, .int .i64 r.y, .int .i64 r.w, .slice a4 r.r.length k4]), rkV (.int .i64 (c : Int)), rkV (.int .i64 (d : Int)), rkV (.int .i64 (y : Int)), rkV (.slice (some ⟨blO, offO, none⟩) 4 capO), rkV (.slice (some ⟨blN, offN, none⟩) 4 capN)] _ rfl (by kernel_rfl) (by simp) ?_ ?_
  · intro i o ho hi u g ww hbw hd
    have hall : Below w.heap.size w ww := halld.trans (hbw.mono (by omega))
    have hlow : w.heap.size ≤ ww.heap.size := hall.size
    obtain ⟨hcl, hfr⟩ := bcell hbw
    have y_z0 := (hcl _ _ (by omega)).trans z0
    have y_z1 := (hcl _ _ (by omega)).trans z1
    have y_z2 := (hcl _ _ (by omega)).trans z2
    have y_z3 := (hcl _ _ (by omega)).trans z3
    clear hcl hfr
    rcases i with _ | _ | _ | _ | _ | _ | _ | _ | _ | _ | _ | _ | _ | _ | i
    all_goals try obtain rfl := Option.some.inj ho
    all_goals try simp only [putAll, fillL]
    · go_wp2
      exact ⟨_, rfl, kept0 (Below.refl _ _), rfl⟩
    · go_wp2
      exact ⟨_, rfl, kept0 (Below.refl _ _), rfl⟩
    · go_wp2
      exact ⟨_, rfl, kept0 (Below.refl _ _), rfl⟩
    · have e1 : u 1 = .int .i64 (s : Int) := hd 1 (by decide)
      rw [e1]
      have e2 : u 2 = .int .i64 (t : Int) := hd 2 (by decide)
      rw [e2]
      go_wp2
      exact ⟨_, by simp only [putAll, fillL, e1, e2] <;> rfl, kept0 (Below.refl _ _), rfl⟩
    · go_wp2
      exact ⟨_, rfl, kept0 (Below.refl _ _), rfl⟩
    · have e4 : u 4 = .int .i64 1 := hd 4 (by decide)
      rw [e4]
      go_wp2
      exact ⟨_, by simp only [putAll, fillL, e4] <;> rfl, kept0 (Below.refl _ _), rfl⟩
    · have e0 : u 0 = .agg #[.int .i64 r.x, .int .i64 r.y, .int .i64 r.w, .slice a4 r.r.length k4] := hd 0 (by decide)
      rw [e0]
      have e3 : u 3 = .int .i64 (x : Int) := hd 3 (by decide)
      rw [e3]
      have e5 : u 5 = .int .i64 1 := hd 5 (by decide)
      rw [e5]
      go_wp2_with fail
      refine (kN.out _ hall).mono ?_
      rintro e wn ⟨rfl, hbn⟩
      go_wp2
      exact ⟨_, by simp only [putAll, fillL, e0, e3, e5] <;> rfl, kept0 hbn, rfl⟩
    · go_wp2
      exact ⟨_, rfl, kept0 (Below.refl _ _), rfl⟩
    · go_wp2
      exact ⟨_, rfl, kept0 (Below.refl _ _), rfl⟩
    · go_wp2
      exact ⟨_, rfl, kept0 (Below.refl _ _), rfl⟩
    · have e8 : u 8 = .int .i64 (c : Int) := hd 8 (by decide)
      rw [e8]
      have e9 : u 9 = .int .i64 (d : Int) := hd 9 (by decide)
      rw [e9]
      go_wp2
      exact ⟨_, by simp only [putAll, fillL, e8, e9] <;> rfl, kept0 (Below.refl _ _), rfl⟩
    · have e7 : u 7 = .agg #[.int .i64 r.x, .int .i64 r.y, .int .i64 r.w, .slice a4 r.r.length k4] := hd 7 (by decide)
      rw [e7]
      have e10 : u 10 = .int .i64 (y : Int) := hd 10 (by decide)
      rw [e10]
      go_wp2_with fail
      refine (kO.out _ hall).mono ?_
      rintro e wn ⟨rfl, hbn⟩
      go_wp2
      exact ⟨_, by simp only [putAll, fillL, e7, e10] <;> rfl, kept0 hbn, rfl⟩
    · have e6 : u 6 = .slice (some ⟨blN, offN, none⟩) 4 capN := hd 6 (by decide)
      rw [e6]
      go_wp2
      exact ⟨_, by simp only [putAll, fillL, e6] <;> rfl, kept0 (Below.refl _ _), rfl⟩
    · exact absurd rfl hi
    · simp at ho
  · intro uu g w5 hbw hR hAp
    have e12 : uu 12 = .slice (some ⟨blN, offN, none⟩) 4 capN := hR 12 (by decide) (by decide)
    have e11 : uu 11 = .slice (some ⟨blO, offO, none⟩) 4 capO := hR 11 (by decide) (by decide)
    have hB5 := hBd.trans (hbw.mono (by omega))
    clear hR hAp z0 z1 z2 z3 hbw hBd halld xst xuv
    simp only [putAll, fillL]
    rw [e12, e11]
    clear e12 e11
    go_wp2_with fail
    have hsz5 := hB5.size
    simp only [World.size_alloc] at hsz5
    have lblN := (row_at iN.out (hl4.out _ (by omega)) 0 (by decide)).1
    have lblO := (row_at iO.out (hl4.out _ (by omega)) 0 (by decide)).1
    go_loopw [8, 15] (fun sm a wr => ∃ a1 : Nat, a1 ≤ 4 ∧ a = .int .i64 a1 ∧ sm = .int .i64 (sumT F (8 * a1)) ∧ Below (w.heap.size + 1) (w.alloc (.cells #[.int .i64 r.x, .int .i64 r.y, .int .i64 r.w, .slice a4 r.r.length k4] 50)) wr) (fun _ a _ => 4 - (intOf a).toNat)
    case atStart => exact ⟨0, by omega, rfl, rfl, hB5⟩
    case round =>
      clear hB5
      obtain ⟨a1, ha1, rfl, rfl, hB⟩ := hrel
      have hbA := hFb.out (8 * a1)
      by_cases hla : a1 < 4
      · have hda : decide ((a1 : Int) < 4) = true := by simp; omega
        go_wp2_with fail
        go_loopw [8, 16] (fun sm a wr => ∃ f1 : Nat, f1 ≤ 2 ∧ a = .int .i64 f1 ∧ sm = .int .i64 (sumT F (8 * a1 + 4 * f1)) ∧ Below (w.heap.size + 1) (w.alloc (.cells #[.int .i64 r.x, .int .i64 r.y, .int .i64 r.w, .slice a4 r.r.length k4] 50)) wr) (fun _ a _ => 2 - (intOf a).toNat)
        case atStart => exact ⟨0, by omega, rfl, rfl, hB⟩
        case round =>
          clear hB
          obtain ⟨f1, hf1, rfl, rfl, hB⟩ := hrel
          have hbF := hFb.out (8 * a1 + 4 * f1)
          by_cases hlf : f1 < 2
          · have hdf : decide ((f1 : Int) < 2) = true := by simp; omega
            obtain ⟨ah, hah⟩ : ∃ q, q = a1 / 2 := ⟨_, rfl⟩
            have lah : ah ≤ 1 := by omega
            have dah : (a1 : Int) / 2 = (ah : Int) := by omega
            obtain ⟨m, hm⟩ : ∃ q, q = bx s ah := ⟨_, rfl⟩
            obtain ⟨n, hn⟩ : ∃ q, q = bx c f1 := ⟨_, rfl⟩
            obtain ⟨dd, hdd⟩ : ∃ q, q = bx m n := ⟨_, rfl⟩
            have lm : m ≤ 1 := hm ▸ bx_le _ _
            have ln : n ≤ 1 := hn ▸ bx_le _ _
            have ld : dd ≤ 1 := hdd ▸ bx_le _ _
            have xm : bits .xor .i64 (s : Int) (ah : Int) = (m : Int) := by rw [hm]; exact bits_bx s ah ls lah
            have xn : bits .xor .i64 (c : Int) (f1 : Int) = (n : Int) := by rw [hn]; exact bits_bx c f1 lu (by omega)
            have xd : bits .xor .i64 (m : Int) (n : Int) = (dd : Int) := by rw [hdd]; exact bits_bx m n lm ln
            obtain ⟨vD, iD, kD2⟩ := kD.out dd ld
            obtain ⟨blD, offD, capD, rfl⟩ := row_form iD (hl4.out _ (by omega))
            have lblD := (row_at iD (hl4.out _ (by omega)) 0 (by decide)).1
            replace iD := Lib.hid iD
            replace kD2 := Lib.hid kD2
            replace hah := Lib.hid hah
            replace hm := Lib.hid hm
            replace hn := Lib.hid hn
            replace hdd := Lib.hid hdd
            have hszr := hB.size
            simp only [World.size_alloc] at hszr
            have hall := hA.trans (hB.mono (by omega))
            obtain ⟨⟨z0, z1, z2, z3⟩, -⟩ := blk4 ((hB.block _ (by omega)).trans pB)
            go_wp2_with fail
            refine (kD2.out _ hall).mono ?_
            clear z0 z1 z2 z3
            rintro e w6 ⟨rfl, hb6⟩
            have hB6 := hB.trans (hb6.mono (by omega))
            clear hB hb6 hall dah xm xn xd
            go_wp2_with fail
            go_loopw [8, 21] (fun sm a wr => ∃ z : Nat, z ≤ 4 ∧ a = .int .i64 z ∧ sm = .int .i64 (sumT F (8 * a1 + 4 * f1 + z)) ∧ Below (w.heap.size + 1) (w.alloc (.cells #[.int .i64 r.x, .int .i64 r.y, .int .i64 r.w, .slice a4 r.r.length k4] 50)) wr) (fun _ a _ => 4 - (intOf a).toNat)
            case atStart => exact ⟨0, by omega, rfl, rfl, hB6⟩
            case round =>
              clear hB6
              obtain ⟨z, hz, rfl, rfl, hB⟩ := hrel
              have hbZ := hFb.out (8 * a1 + 4 * f1 + z)
              by_cases hlz : z < 4
              · have hdz : decide ((z : Int) < 4) = true := by simp; omega
                obtain ⟨sm, hsm⟩ : ∃ q, q = sumT F (8 * a1 + 4 * f1 + z) := ⟨_, rfl⟩
                obtain ⟨qN, hqN⟩ : ∃ q, q = cellB r (x * 2 + 1) a1 := ⟨_, rfl⟩
                obtain ⟨q0, hq0⟩ : ∃ q, q = cellB r (y * 2 + 0) (2 * f1) := ⟨_, rfl⟩
                obtain ⟨q1, hq1⟩ : ∃ q, q = cellB r (y * 2 + 0) (2 * f1 + 1) := ⟨_, rfl⟩
                obtain ⟨qD, hqD⟩ : ∃ q, q = cellB r (dd * 2 + 0) z := ⟨_, rfl⟩
                obtain ⟨zh, hzh⟩ : ∃ q, q = z / 2 := ⟨_, rfl⟩
                obtain ⟨zl, hzl⟩ : ∃ q, q = z % 2 := ⟨_, rfl⟩
                obtain ⟨al, hal⟩ : ∃ q, q = a1 % 2 := ⟨_, rfl⟩
                obtain ⟨g1, hg1⟩ : ∃ q, q = bx m zh := ⟨_, rfl⟩
                obtain ⟨g2, hg2⟩ : ∃ q, q = bx g1 zl := ⟨_, rfl⟩
                obtain ⟨g3, hg3⟩ : ∃ q, q = bx g2 al := ⟨_, rfl⟩
                have hT : F (8 * a1 + 4 * f1 + z) = if g3 = kb then qN * (q0 + q1) * qD else 0 := by
                  rw [hF.out]
                  unfold fS tT
                  rw [show (8 * a1 + 4 * f1 + z) / 8 = a1 by omega, show (8 * a1 + 4 * f1 + z) / 4 % 2 = f1 by omega, show (8 * a1 + 4 * f1 + z) % 4 = z by omega]
                  rw [hg3, hg2, hg1, hqN, hq0, hq1, hqD, hdd.out, hm.out, hn.out, hah.out, hzh, hzl, hal]
                  rfl
                have hst : sumT F (8 * a1 + 4 * f1 + (z + 1)) = sm + F (8 * a1 + 4 * f1 + z) := by rw [hsm]; rfl
                rw [hT] at hst
                have bN1 : 0 ≤ qN ∧ qN ≤ 100 := hqN ▸ hcl.out _ (by omega) _
                have bO0 : 0 ≤ q0 ∧ q0 ≤ 100 := hq0 ▸ hcl.out _ (by omega) _
                have bO1 : 0 ≤ q1 ∧ q1 ≤ 100 := hq1 ▸ hcl.out _ (by omega) _
                have bD : 0 ≤ qD ∧ qD ≤ 100 := hqD ▸ hcl.out _ (by omega) _
                have bP1 := mul_bound bN1 (show 0 ≤ q0 + q1 ∧ q0 + q1 ≤ 200 by omega)
                have bP2 := mul_bound bP1 bD
                have dzh : (z : Int) / 2 = (zh : Int) := by omega
                have dzl : bits .and .i64 (z : Int) 1 = (zl : Int) := by rw [hzl]; exact band1 z (by omega)
                have dal : bits .and .i64 (a1 : Int) 1 = (al : Int) := by rw [hal]; exact band1 a1 (by omega)
                have lg1 : g1 ≤ 1 := hg1 ▸ bx_le _ _
                have lg2 : g2 ≤ 1 := hg2 ▸ bx_le _ _
                have xg1 : bits .xor .i64 (m : Int) (zh : Int) = (g1 : Int) := by rw [hg1]; exact bits_bx _ zh (by omega) (by omega)
                have xg2 : bits .xor .i64 (g1 : Int) (zl : Int) = (g2 : Int) := by rw [hg2]; exact bits_bx g1 zl lg1 (by omega)
                have xg3 : bits .xor .i64 (g2 : Int) (al : Int) = (g3 : Int) := by rw [hg3]; exact bits_bx g2 al lg2 (by omega)
                rw [← hsm] at hbZ ⊢
                have hszr := hB.size
                simp only [World.size_alloc] at hszr
                have hall0 := hA.trans (hB.mono (by omega))
                have cN := (row_at (iN.out.below hall0) (hl4.out _ (by omega)) a1 hla).2
                have cO := (row_at (iO.out.below hall0) (hl4.out _ (by omega)) (2 * f1) (by omega)).2
                have cO1 := (row_at (iO.out.below hall0) (hl4.out _ (by omega)) (2 * f1 + 1) (by omega)).2
                have cD := (row_at (iD.out.below hall0) (hl4.out _ (by omega)) z hlz).2
                rw [← hqN] at cN
                rw [← hq0] at cO
                rw [← hq1] at cO1
                rw [← hqD] at cD
                clear hT hqN hq0 hq1 hqD hzh hzl hal hg1 hg2 hg3
                replace hst := Lib.hid hst
                replace hsm := Lib.hid hsm
                cases hg : ((g3 : Int) == (kb : Int))
                · have hst2 : Hid (sumT F (8 * a1 + 4 * f1 + (z + 1)) = sm) := Lib.hid (by rw [hst.out, if_neg (by have := beq_eq_false_iff_ne.1 hg; omega)]; omega)
                  clear cN cO cO1 cD bP1 bP2
                  go_wp2
                  go_roundw
                  case rel => first | exact ⟨z + 1, by omega, by go_num, by rw [hst2.out], hB⟩ | ((repeat apply Exists.intro); exact ⟨⟨z + 1, by omega, rfl, by rw [hst2.out], hB⟩, rfl⟩)
                  case measure => simp [intOf]; omega
                · have hst2 : Hid (sumT F (8 * a1 + 4 * f1 + (z + 1)) = sm + qN * (q0 + q1) * qD) := Lib.hid (by rw [hst.out, if_pos (by have := eq_of_beq hg; omega)])
                  go_wp2_with fail
                  clear dzh dzl dal xg1 xg2 xg3 bk hg
                  refine wp_region_rkt (by kernel_rfl) [none, none, none, none, none, none, none, none, some 24, none, none, none, none, none, none, none, none, none, none, none, none, none, none, none, none, none, none, none, none, none, none, none, none, none, none, none, none, none, none, none, none, none, none, none, none, none, none, none, none, none, none, none, none, none, none, none, none, none, none, none, none, none, none, none, none, none, none, none, none, none, none, none, none, none, none, none, none, none, none, none, none, none, none, none, none, none, none, none, none, none, none, none, none, none, none, none, none, none, none, none, none, none, none, none, none, some 0, some 1, some 2, some 3, some 4, some 5, some 6, some 7, some 8, some 9, some 10, some 11, some 12, some 13, some 14, some 15, some 16, some 17, some 18, some 19, some 20, some 21, some 22, some 23] 23 24 (by kernel_rfl) (by kernel_rfl) (by kernel_rfl) _ _ rfl rfl 8 rfl w.heap.size [rkV (.int .i64 sm), rkV (.slice (some ⟨blN, offN, none⟩) 4 capN), rkV (.int .i64 (a1 : Int)), rkV (.pointer (some ⟨blN, offN + a1, none⟩)), rkV (.int .i64 qN), rkV (.slice (some ⟨blO, offO, none⟩) 4 capO), rkV (.int .i64 (f1 : Int)), rkV (.int .i64 (2 * (f1 : Int))), rkV (.pointer (some ⟨blO, offO + 2 * f1, none⟩)), rkV (.int .i64 q0), rkV (.slice (some ⟨blO, offO, none⟩) 4 capO), rkV (.int .i64 (f1 : Int)), rkV (.int .i64 (2 * (f1 : Int))), rkV (.int .i64 (2 * (f1 : Int) + 1)), rkV (.pointer (some ⟨blO, offO + (2 * f1 + 1), none⟩)), rkV (.int .i64 q1), rkV (.int .i64 (q0 + q1)), rkV (.int .i64 (qN * (q0 + q1))), rkV (.slice (some ⟨blD, offD, none⟩) 4 capD), rkV (.int .i64 (z : Int)), rkV (.pointer (some ⟨blD, offD + z, none⟩)), rkV (.int .i64 qD), rkV (.int .i64 (qN * (q0 + q1) * qD))] _ rfl (by kernel_rfl) (by simp) ?_ ?_
                  · intro i o ho hi hi2 u g ww hbw hu2 hd
                    replace hu2 : u 24 = .int .i64 sm := hu2
                    have hall : Below w.heap.size w ww := hall0.trans (hbw.mono (by omega))
                    have hlow : w.heap.size ≤ ww.heap.size := hall.size
                    obtain ⟨hcl, hfr⟩ := bcell hbw
                    have y_cN := (hcl _ _ (by omega)).trans cN
                    have y_cO := (hcl _ _ (by omega)).trans cO
                    have y_cO1 := (hcl _ _ (by omega)).trans cO1
                    have y_cD := (hcl _ _ (by omega)).trans cD
                    clear hcl hfr
                    rcases i with _ | _ | _ | _ | _ | _ | _ | _ | _ | _ | _ | _ | _ | _ | _ | _ | _ | _ | _ | _ | _ | _ | _ | _ | _ | i
                    all_goals try obtain rfl := Option.some.inj ho
                    all_goals try simp only [putAll, fillL]
                    · rw [hu2]
                      go_wp2
                      exact ⟨_, by simp only [putAll, fillL, hu2] <;> rfl, kept0 (Below.refl _ _), rfl⟩
                    · go_wp2
                      exact ⟨_, by simp only [putAll, fillL, hu2] <;> rfl, kept0 (Below.refl _ _), rfl⟩
                    · go_wp2
                      exact ⟨_, by simp only [putAll, fillL, hu2] <;> rfl, kept0 (Below.refl _ _), rfl⟩
                    · have e1 : u 1 = .slice (some ⟨blN, offN, none⟩) 4 capN := hd 1 (by decide)
                      rw [e1]
                      have e2 : u 2 = .int .i64 (a1 : Int) := hd 2 (by decide)
                      rw [e2]
                      go_wp2
                      exact ⟨_, by simp only [putAll, fillL, hu2, e1, e2] <;> rfl, kept0 (Below.refl _ _), rfl⟩
                    · have e3 : u 3 = .pointer (some ⟨blN, offN + a1, none⟩) := hd 3 (by decide)
                      rw [e3]
                      go_wp2
                      exact ⟨_, by simp only [putAll, fillL, hu2, e3] <;> rfl, kept0 (Below.refl _ _), rfl⟩
                    · go_wp2
                      exact ⟨_, by simp only [putAll, fillL, hu2] <;> rfl, kept0 (Below.refl _ _), rfl⟩
                    · go_wp2
                      exact ⟨_, by simp only [putAll, fillL, hu2] <;> rfl, kept0 (Below.refl _ _), rfl⟩
                    · have e6 : u 6 = .int .i64 (f1 : Int) := hd 6 (by decide)
                      rw [e6]
                      go_wp2
                      exact ⟨_, by simp only [putAll, fillL, hu2, e6] <;> rfl, kept0 (Below.refl _ _), rfl⟩
                    · have e5 : u 5 = .slice (some ⟨blO, offO, none⟩) 4 capO := hd 5 (by decide)
                      rw [e5]
                      have e7 : u 7 = .int .i64 (2 * (f1 : Int)) := hd 7 (by decide)
                      rw [e7]
                      go_wp2
                      exact ⟨_, by simp only [putAll, fillL, hu2, e5, e7] <;> rfl, kept0 (Below.refl _ _), rfl⟩
                    · have e8 : u 8 = .pointer (some ⟨blO, offO + 2 * f1, none⟩) := hd 8 (by decide)
                      rw [e8]
                      go_wp2
                      exact ⟨_, by simp only [putAll, fillL, hu2, e8] <;> rfl, kept0 (Below.refl _ _), rfl⟩
                    · go_wp2
                      exact ⟨_, by simp only [putAll, fillL, hu2] <;> rfl, kept0 (Below.refl _ _), rfl⟩
                    · go_wp2
                      exact ⟨_, by simp only [putAll, fillL, hu2] <;> rfl, kept0 (Below.refl _ _), rfl⟩
                    · have e11 : u 11 = .int .i64 (f1 : Int) := hd 11 (by decide)
                      rw [e11]
                      go_wp2
                      exact ⟨_, by simp only [putAll, fillL, hu2, e11] <;> rfl, kept0 (Below.refl _ _), rfl⟩
                    · have e12 : u 12 = .int .i64 (2 * (f1 : Int)) := hd 12 (by decide)
                      rw [e12]
                      go_wp2
                      exact ⟨_, by simp only [putAll, fillL, hu2, e12] <;> rfl, kept0 (Below.refl _ _), rfl⟩
                    · have e10 : u 10 = .slice (some ⟨blO, offO, none⟩) 4 capO := hd 10 (by decide)
                      rw [e10]
                      have e13 : u 13 = .int .i64 (2 * (f1 : Int) + 1) := hd 13 (by decide)
                      rw [e13]
                      go_wp2
                      exact ⟨_, by simp only [putAll, fillL, hu2, e10, e13] <;> rfl, kept0 (Below.refl _ _), rfl⟩
                    · have e14 : u 14 = .pointer (some ⟨blO, offO + (2 * f1 + 1), none⟩) := hd 14 (by decide)
                      rw [e14]
                      go_wp2
                      exact ⟨_, by simp only [putAll, fillL, hu2, e14] <;> rfl, kept0 (Below.refl _ _), rfl⟩
                    · have e9 : u 9 = .int .i64 q0 := hd 9 (by decide)
                      rw [e9]
                      have e15 : u 15 = .int .i64 q1 := hd 15 (by decide)
                      rw [e15]
                      go_wp2
                      exact ⟨_, by simp only [putAll, fillL, hu2, e9, e15] <;> rfl, kept0 (Below.refl _ _), rfl⟩
                    · have e4 : u 4 = .int .i64 qN := hd 4 (by decide)
                      rw [e4]
                      have e16 : u 16 = .int .i64 (q0 + q1) := hd 16 (by decide)
                      rw [e16]
                      go_wp2
                      exact ⟨_, by simp only [putAll, fillL, hu2, e4, e16] <;> rfl, kept0 (Below.refl _ _), rfl⟩
                    · go_wp2
                      exact ⟨_, by simp only [putAll, fillL, hu2] <;> rfl, kept0 (Below.refl _ _), rfl⟩
                    · go_wp2
                      exact ⟨_, by simp only [putAll, fillL, hu2] <;> rfl, kept0 (Below.refl _ _), rfl⟩
                    · have e18 : u 18 = .slice (some ⟨blD, offD, none⟩) 4 capD := hd 18 (by decide)
                      rw [e18]
                      have e19 : u 19 = .int .i64 (z : Int) := hd 19 (by decide)
                      rw [e19]
                      go_wp2
                      exact ⟨_, by simp only [putAll, fillL, hu2, e18, e19] <;> rfl, kept0 (Below.refl _ _), rfl⟩
                    · have e20 : u 20 = .pointer (some ⟨blD, offD + z, none⟩) := hd 20 (by decide)
                      rw [e20]
                      go_wp2
                      exact ⟨_, by simp only [putAll, fillL, hu2, e20] <;> rfl, kept0 (Below.refl _ _), rfl⟩
                    · have e17 : u 17 = .int .i64 (qN * (q0 + q1)) := hd 17 (by decide)
                      rw [e17]
                      have e21 : u 21 = .int .i64 qD := hd 21 (by decide)
                      rw [e21]
                      go_wp2
                      exact ⟨_, by simp only [putAll, fillL, hu2, e17, e21] <;> rfl, kept0 (Below.refl _ _), rfl⟩
                    · exact absurd rfl hi
                    · exact absurd rfl hi2
                    · simp at ho
                  · intro uu g w7 hbw hu2 hR hAp
                    have e22 : uu 22 = .int .i64 (qN * (q0 + q1) * qD) := hR 22 (by decide) (by decide) (by decide)
                    have e0 : uu 0 = .int .i64 sm := hR 0 (by decide) (by decide) (by decide)
                    replace hu2 : uu 24 = .int .i64 sm := hu2
                    have hB7 := hB.trans (hbw.mono (by omega))
                    clear hR hAp cN cO cO1 cD hbw hB hall0
                    simp only [putAll, fillL]
                    rw [hu2, e22, e0]
                    clear hu2 e22 e0
                    go_wp2
                    go_roundw
                    case rel => first | exact ⟨z + 1, by omega, by go_num, by rw [hst2.out], hB7⟩ | ((repeat apply Exists.intro); exact ⟨⟨z + 1, by omega, rfl, by rw [hst2.out], hB7⟩, rfl⟩)
                    case measure => simp [intOf]; omega
              · obtain rfl : z = 4 := by omega
                go_wp2
                go_roundw
                case rel => first | exact ⟨f1 + 1, by omega, by go_num, by rw [show 8 * a1 + 4 * (f1 + 1) = 8 * a1 + 4 * f1 + 4 by omega], hB⟩ | ((repeat apply Exists.intro); exact ⟨⟨f1 + 1, by omega, rfl, by rw [show 8 * a1 + 4 * (f1 + 1) = 8 * a1 + 4 * f1 + 4 by omega], hB⟩, rfl⟩)
                case measure => simp [intOf]; omega
          · obtain rfl : f1 = 2 := by omega
            go_wp2
            go_roundw
            case rel => first | exact ⟨a1 + 1, by omega, by go_num, by rw [show 8 * (a1 + 1) = 8 * a1 + 4 * 2 by omega], hB⟩ | ((repeat apply Exists.intro); exact ⟨⟨a1 + 1, by omega, rfl, by rw [show 8 * (a1 + 1) = 8 * a1 + 4 * 2 by omega], hB⟩, rfl⟩)
            case measure => simp [intOf]; omega
      · obtain rfl : a1 = 4 := by omega
        have hall := hA.trans (hB.mono (by omega))
        go_wp2
        go_ret
        exact ⟨by rw [hRes.out]; rfl, hall⟩

set_option maxRecDepth 100000 in
set_option maxHeartbeats 8000000 in
theorem c_l9Right2 (v : Value) (r : BoxD) (k : Nat) (w : World) (h : BoxR w v r) (hc : chainB r = true) (hk : k < 16) :
    Calls Try.prog 81 #[v, .int .i64 k, .int .i64 2] w fun e w' => e = .returned (.int .i64 (rightV r k 2)) ∧ Below w.heap.size w w' := by
  obtain ⟨v4, rfl, hr⟩ := id h
  obtain ⟨a4, k4, rfl, l4⟩ := hr.out
  have hA := (Below.refl w.heap.size w).alloc (Nat.le_refl _) (.cells #[.int .i64 r.x, .int .i64 r.y, .int .i64 r.w, .slice a4 r.r.length k4] 50)
  have pB : (w.alloc (.cells #[.int .i64 r.x, .int .i64 r.y, .int .i64 r.w, .slice a4 r.r.length k4] 50)).heap[w.heap.size]? = some (.cells #[.int .i64 r.x, .int .i64 r.y, .int .i64 r.w, .slice a4 r.r.length k4] 50 (0, 0)) := heap_alloc_at rfl
  have hp : pairB r = true := by unfold chainB at hc; simp only [Bool.and_eq_true] at hc; exact hc.1
  obtain ⟨hbb, hxx, hyy, hlen⟩ := pairB_facts hp
  have hl4 := fun q (hq : q < 4) => (boxB_row hbb (show q < r.r.length by omega)).1
  have hcl := fun q (hq : q < 4) => chain_cell hc hq
  clear hp
  replace hbb := Lib.hid hbb
  replace hlen := Lib.hid hlen
  replace hxx := Lib.hid hxx
  replace hyy := Lib.hid hyy
  replace hc := Lib.hid hc
  replace hl4 := Lib.hid hl4
  replace hcl := Lib.hid hcl
  obtain ⟨s, hs⟩ : ∃ s, s = bN 2 k := ⟨_, rfl⟩
  obtain ⟨t, ht⟩ : ∃ t, t = bN 3 k := ⟨_, rfl⟩
  obtain ⟨c, hu⟩ : ∃ c, c = bN 0 k := ⟨_, rfl⟩
  obtain ⟨d, hv⟩ : ∃ d, d = bN 1 k := ⟨_, rfl⟩
  obtain ⟨kb, hkb⟩ : ∃ kb, kb = bN 2 k := ⟨_, rfl⟩
  have ls : s ≤ 1 := hs ▸ bN_le _ _
  have lt : t ≤ 1 := ht ▸ bN_le _ _
  have lu : c ≤ 1 := hu ▸ bN_le _ _
  have lv : d ≤ 1 := hv ▸ bN_le _ _
  have bs : bits .and .i64 ((k : Int) / 4) 1 = (s : Int) := by rw [hs]; have := bandN k (2 ^ 2) 2 (by omega) rfl; simpa using this
  have bt : bits .and .i64 ((k : Int) / 8) 1 = (t : Int) := by rw [ht]; have := bandN k (2 ^ 3) 3 (by omega) rfl; simpa using this
  have bu : bits .and .i64 (k : Int) 1 = (c : Int) := by rw [hu]; have := bandN k (2 ^ 0) 0 (by omega) rfl; simpa using this
  have bv : bits .and .i64 ((k : Int) / 2) 1 = (d : Int) := by rw [hv]; have := bandN k (2 ^ 1) 1 (by omega) rfl; simpa using this
  have bk : bits .and .i64 ((k : Int) / 4) 1 = (kb : Int) := by rw [hkb]; have := bandN k (2 ^ 2) 2 (by omega) rfl; simpa using this
  have lx := bx_le s t
  have ly := bx_le c d
  have xst := bits_bx s t ls lt
  have xuv := bits_bx c d lu lv
  obtain ⟨F, hF⟩ : ∃ F, F = fS r 1 kb s c (bx s t * 2 + 0) (bx c d * 2 + 0) := ⟨_, rfl⟩
  have hRes : Hid (rightV r k 2 = sumT F 32) := Lib.hid (by rw [hF, hs, ht, hu, hv, hkb]; rfl)
  obtain ⟨x, hx⟩ : ∃ x, x = bx s t := ⟨_, rfl⟩
  obtain ⟨y, hy⟩ : ∃ y, y = bx c d := ⟨_, rfl⟩
  rw [← hx] at lx xst hF
  rw [← hy] at ly xuv hF
  have hFb := sumT_bound (F := F) (fun q => by rw [hF]; exact tT_bound hc.out (by decide) (by omega) (by omega))
  obtain ⟨vN, iN, kN⟩ := at_l2Row _ r x 0 2 w h hyy.out (by omega) (by rw [hlen.out]; omega)
  obtain ⟨vO, iO, kO⟩ := at_l2Row _ r y 0 2 w h hyy.out (by omega) (by rw [hlen.out]; omega)
  obtain ⟨blN, offN, capN, rfl⟩ := row_form iN (hl4.out _ (by omega))
  obtain ⟨blO, offO, capO, rfl⟩ := row_form iO (hl4.out _ (by omega))
  have kD := fun e (he : e ≤ 1) => at_l2Row _ r e 1 2 w h hyy.out (by omega) (by rw [hlen.out]; omega)
  replace hs := Lib.hid hs
  replace ht := Lib.hid ht
  replace hu := Lib.hid hu
  replace hv := Lib.hid hv
  replace hkb := Lib.hid hkb
  replace hF := Lib.hid hF
  replace hFb := Lib.hid hFb
  replace hx := Lib.hid hx
  replace hy := Lib.hid hy
  replace iN := Lib.hid iN
  replace kN := Lib.hid kN
  replace iO := Lib.hid iO
  replace kO := Lib.hid kO
  replace kD := Lib.hid kD
  go_enter Try.func81, Try.ntmps81
  have hBd := fun a b => below_drewN (below_drewN (Below.refl (w.heap.size + 1) (w.alloc (.cells #[.int .i64 r.x, .int .i64 r.y, .int .i64 r.w, .slice a4 r.r.length k4] 50))) a) b
  go_wp2_with fail
  go_quiet (fail)
  all_goals go_wp2_with fail
  go_quiet (fail)
  all_goals go_wp2_with fail
  generalize hwd : World.drewN (World.drewN _ _) _ = wd
  replace hBd : Below (w.heap.size + 1) (w.alloc (.cells #[.int .i64 r.x, .int .i64 r.y, .int .i64 r.w, .slice a4 r.r.length k4] 50)) wd := hwd ▸ hBd _ _
  clear hwd
  have hszd := hBd.size
  simp only [World.size_alloc] at hszd
  have halld := hA.trans (hBd.mono (by omega))
  obtain ⟨⟨z0, z1, z2, z3⟩, -⟩ := blk4 ((hBd.block _ (by omega)).trans pB)
  clear bs bt bu bv
  refine wp_region_rk (by kernel_rfl) [none, none, none, none, none, none, none, none, none, none, none, none, none, some 12, some 13, none, none, none, none, none, none, none, none, none, none, none, none, none, none, none, none, none, none, none, none, none, none, none, none, none, none, none, none, none, none, none, none, none, some 0, some 1, some 2, some 3, some 4, some 5, some 6, some 7, some 8, some 9, some 10, some 11] 13 (by kernel_rfl) (by kernel_rfl) (by kernel_rfl) _ rfl w.heap.size [rkV (.agg #[.int .i64 r.x, .int .i64 r.y, .int .i64 r.w, .slice a4 r.r.length k4]), rkV (.int .i64 (s : Int)), rkV (.int .i64 (t : Int)), rkV (.int .i64 (x : Int)), rkV (.int .i64 2), rkV (.int .i64 0), rkV (.slice (some ⟨blN, offN, none⟩) 4 capN), rkV (.agg #[.int .i64 r.x, .int .i64 r.y, .int .i64 r.w, .slice a4 r.r.length k4]), rkV (.int .i64 (c : Int)), rkV (.int .i64 (d : Int)), rkV (.int .i64 (y : Int)), rkV (.slice (some ⟨blO, offO, none⟩) 4 capO), rkV (.slice (some ⟨blN, offN, none⟩) 4 capN)] _ rfl (by kernel_rfl) (by simp) ?_ ?_
  · intro i o ho hi u g ww hbw hd
    have hall : Below w.heap.size w ww := halld.trans (hbw.mono (by omega))
    have hlow : w.heap.size ≤ ww.heap.size := hall.size
    obtain ⟨hcl, hfr⟩ := bcell hbw
    have y_z0 := (hcl _ _ (by omega)).trans z0
    have y_z1 := (hcl _ _ (by omega)).trans z1
    have y_z2 := (hcl _ _ (by omega)).trans z2
    have y_z3 := (hcl _ _ (by omega)).trans z3
    clear hcl hfr
    rcases i with _ | _ | _ | _ | _ | _ | _ | _ | _ | _ | _ | _ | _ | _ | i
    all_goals try obtain rfl := Option.some.inj ho
    all_goals try simp only [putAll, fillL]
    · go_wp2
      exact ⟨_, rfl, kept0 (Below.refl _ _), rfl⟩
    · go_wp2
      exact ⟨_, rfl, kept0 (Below.refl _ _), rfl⟩
    · go_wp2
      exact ⟨_, rfl, kept0 (Below.refl _ _), rfl⟩
    · have e1 : u 1 = .int .i64 (s : Int) := hd 1 (by decide)
      rw [e1]
      have e2 : u 2 = .int .i64 (t : Int) := hd 2 (by decide)
      rw [e2]
      go_wp2
      exact ⟨_, by simp only [putAll, fillL, e1, e2] <;> rfl, kept0 (Below.refl _ _), rfl⟩
    · go_wp2
      exact ⟨_, rfl, kept0 (Below.refl _ _), rfl⟩
    · have e4 : u 4 = .int .i64 2 := hd 4 (by decide)
      rw [e4]
      go_wp2
      exact ⟨_, by simp only [putAll, fillL, e4] <;> rfl, kept0 (Below.refl _ _), rfl⟩
    · have e0 : u 0 = .agg #[.int .i64 r.x, .int .i64 r.y, .int .i64 r.w, .slice a4 r.r.length k4] := hd 0 (by decide)
      rw [e0]
      have e3 : u 3 = .int .i64 (x : Int) := hd 3 (by decide)
      rw [e3]
      have e5 : u 5 = .int .i64 0 := hd 5 (by decide)
      rw [e5]
      go_wp2_with fail
      refine (kN.out _ hall).mono ?_
      rintro e wn ⟨rfl, hbn⟩
      go_wp2
      exact ⟨_, by simp only [putAll, fillL, e0, e3, e5] <;> rfl, kept0 hbn, rfl⟩
    · go_wp2
      exact ⟨_, rfl, kept0 (Below.refl _ _), rfl⟩
    · go_wp2
      exact ⟨_, rfl, kept0 (Below.refl _ _), rfl⟩
    · go_wp2
      exact ⟨_, rfl, kept0 (Below.refl _ _), rfl⟩
    · have e8 : u 8 = .int .i64 (c : Int) := hd 8 (by decide)
      rw [e8]
      have e9 : u 9 = .int .i64 (d : Int) := hd 9 (by decide)
      rw [e9]
      go_wp2
      exact ⟨_, by simp only [putAll, fillL, e8, e9] <;> rfl, kept0 (Below.refl _ _), rfl⟩
    · have e7 : u 7 = .agg #[.int .i64 r.x, .int .i64 r.y, .int .i64 r.w, .slice a4 r.r.length k4] := hd 7 (by decide)
      rw [e7]
      have e10 : u 10 = .int .i64 (y : Int) := hd 10 (by decide)
      rw [e10]
      go_wp2_with fail
      refine (kO.out _ hall).mono ?_
      rintro e wn ⟨rfl, hbn⟩
      go_wp2
      exact ⟨_, by simp only [putAll, fillL, e7, e10] <;> rfl, kept0 hbn, rfl⟩
    · have e6 : u 6 = .slice (some ⟨blN, offN, none⟩) 4 capN := hd 6 (by decide)
      rw [e6]
      go_wp2
      exact ⟨_, by simp only [putAll, fillL, e6] <;> rfl, kept0 (Below.refl _ _), rfl⟩
    · exact absurd rfl hi
    · simp at ho
  · intro uu g w5 hbw hR hAp
    have e12 : uu 12 = .slice (some ⟨blN, offN, none⟩) 4 capN := hR 12 (by decide) (by decide)
    have e11 : uu 11 = .slice (some ⟨blO, offO, none⟩) 4 capO := hR 11 (by decide) (by decide)
    have hB5 := hBd.trans (hbw.mono (by omega))
    clear hR hAp z0 z1 z2 z3 hbw hBd halld xst xuv
    simp only [putAll, fillL]
    rw [e12, e11]
    clear e12 e11
    go_wp2_with fail
    have hsz5 := hB5.size
    simp only [World.size_alloc] at hsz5
    have lblN := (row_at iN.out (hl4.out _ (by omega)) 0 (by decide)).1
    have lblO := (row_at iO.out (hl4.out _ (by omega)) 0 (by decide)).1
    go_loopw [8, 15] (fun sm a wr => ∃ a1 : Nat, a1 ≤ 4 ∧ a = .int .i64 a1 ∧ sm = .int .i64 (sumT F (8 * a1)) ∧ Below (w.heap.size + 1) (w.alloc (.cells #[.int .i64 r.x, .int .i64 r.y, .int .i64 r.w, .slice a4 r.r.length k4] 50)) wr) (fun _ a _ => 4 - (intOf a).toNat)
    case atStart => exact ⟨0, by omega, rfl, rfl, hB5⟩
    case round =>
      clear hB5
      obtain ⟨a1, ha1, rfl, rfl, hB⟩ := hrel
      have hbA := hFb.out (8 * a1)
      by_cases hla : a1 < 4
      · have hda : decide ((a1 : Int) < 4) = true := by simp; omega
        go_wp2_with fail
        go_loopw [8, 16] (fun sm a wr => ∃ f1 : Nat, f1 ≤ 2 ∧ a = .int .i64 f1 ∧ sm = .int .i64 (sumT F (8 * a1 + 4 * f1)) ∧ Below (w.heap.size + 1) (w.alloc (.cells #[.int .i64 r.x, .int .i64 r.y, .int .i64 r.w, .slice a4 r.r.length k4] 50)) wr) (fun _ a _ => 2 - (intOf a).toNat)
        case atStart => exact ⟨0, by omega, rfl, rfl, hB⟩
        case round =>
          clear hB
          obtain ⟨f1, hf1, rfl, rfl, hB⟩ := hrel
          have hbF := hFb.out (8 * a1 + 4 * f1)
          by_cases hlf : f1 < 2
          · have hdf : decide ((f1 : Int) < 2) = true := by simp; omega
            obtain ⟨ah, hah⟩ : ∃ q, q = a1 / 2 := ⟨_, rfl⟩
            have lah : ah ≤ 1 := by omega
            have dah : (a1 : Int) / 2 = (ah : Int) := by omega
            obtain ⟨m, hm⟩ : ∃ q, q = bx s ah := ⟨_, rfl⟩
            obtain ⟨n, hn⟩ : ∃ q, q = bx c f1 := ⟨_, rfl⟩
            obtain ⟨dd, hdd⟩ : ∃ q, q = bx m n := ⟨_, rfl⟩
            have lm : m ≤ 1 := hm ▸ bx_le _ _
            have ln : n ≤ 1 := hn ▸ bx_le _ _
            have ld : dd ≤ 1 := hdd ▸ bx_le _ _
            have xm : bits .xor .i64 (s : Int) (ah : Int) = (m : Int) := by rw [hm]; exact bits_bx s ah ls lah
            have xn : bits .xor .i64 (c : Int) (f1 : Int) = (n : Int) := by rw [hn]; exact bits_bx c f1 lu (by omega)
            have xd : bits .xor .i64 (m : Int) (n : Int) = (dd : Int) := by rw [hdd]; exact bits_bx m n lm ln
            obtain ⟨vD, iD, kD2⟩ := kD.out dd ld
            obtain ⟨blD, offD, capD, rfl⟩ := row_form iD (hl4.out _ (by omega))
            have lblD := (row_at iD (hl4.out _ (by omega)) 0 (by decide)).1
            replace iD := Lib.hid iD
            replace kD2 := Lib.hid kD2
            replace hah := Lib.hid hah
            replace hm := Lib.hid hm
            replace hn := Lib.hid hn
            replace hdd := Lib.hid hdd
            have hszr := hB.size
            simp only [World.size_alloc] at hszr
            have hall := hA.trans (hB.mono (by omega))
            obtain ⟨⟨z0, z1, z2, z3⟩, -⟩ := blk4 ((hB.block _ (by omega)).trans pB)
            go_wp2_with fail
            refine (kD2.out _ hall).mono ?_
            clear z0 z1 z2 z3
            rintro e w6 ⟨rfl, hb6⟩
            have hB6 := hB.trans (hb6.mono (by omega))
            clear hB hb6 hall dah xm xn xd
            go_wp2_with fail
            go_loopw [8, 21] (fun sm a wr => ∃ z : Nat, z ≤ 4 ∧ a = .int .i64 z ∧ sm = .int .i64 (sumT F (8 * a1 + 4 * f1 + z)) ∧ Below (w.heap.size + 1) (w.alloc (.cells #[.int .i64 r.x, .int .i64 r.y, .int .i64 r.w, .slice a4 r.r.length k4] 50)) wr) (fun _ a _ => 4 - (intOf a).toNat)
            case atStart => exact ⟨0, by omega, rfl, rfl, hB6⟩
            case round =>
              clear hB6
              obtain ⟨z, hz, rfl, rfl, hB⟩ := hrel
              have hbZ := hFb.out (8 * a1 + 4 * f1 + z)
              by_cases hlz : z < 4
              · have hdz : decide ((z : Int) < 4) = true := by simp; omega
                obtain ⟨sm, hsm⟩ : ∃ q, q = sumT F (8 * a1 + 4 * f1 + z) := ⟨_, rfl⟩
                obtain ⟨qN, hqN⟩ : ∃ q, q = cellB r (x * 2 + 0) a1 := ⟨_, rfl⟩
                obtain ⟨q0, hq0⟩ : ∃ q, q = cellB r (y * 2 + 0) (2 * f1) := ⟨_, rfl⟩
                obtain ⟨q1, hq1⟩ : ∃ q, q = cellB r (y * 2 + 0) (2 * f1 + 1) := ⟨_, rfl⟩
                obtain ⟨qD, hqD⟩ : ∃ q, q = cellB r (dd * 2 + 1) z := ⟨_, rfl⟩
                obtain ⟨zh, hzh⟩ : ∃ q, q = z / 2 := ⟨_, rfl⟩
                obtain ⟨zl, hzl⟩ : ∃ q, q = z % 2 := ⟨_, rfl⟩
                obtain ⟨al, hal⟩ : ∃ q, q = a1 % 2 := ⟨_, rfl⟩
                obtain ⟨g1, hg1⟩ : ∃ q, q = bx n zh := ⟨_, rfl⟩
                obtain ⟨g2, hg2⟩ : ∃ q, q = bx g1 zl := ⟨_, rfl⟩
                obtain ⟨g3, hg3⟩ : ∃ q, q = bx g2 al := ⟨_, rfl⟩
                have hT : F (8 * a1 + 4 * f1 + z) = if g3 = kb then qN * (q0 + q1) * qD else 0 := by
                  rw [hF.out]
                  unfold fS tT
                  rw [show (8 * a1 + 4 * f1 + z) / 8 = a1 by omega, show (8 * a1 + 4 * f1 + z) / 4 % 2 = f1 by omega, show (8 * a1 + 4 * f1 + z) % 4 = z by omega]
                  rw [hg3, hg2, hg1, hqN, hq0, hq1, hqD, hdd.out, hm.out, hn.out, hah.out, hzh, hzl, hal]
                  rfl
                have hst : sumT F (8 * a1 + 4 * f1 + (z + 1)) = sm + F (8 * a1 + 4 * f1 + z) := by rw [hsm]; rfl
                rw [hT] at hst
                have bN1 : 0 ≤ qN ∧ qN ≤ 100 := hqN ▸ hcl.out _ (by omega) _
                have bO0 : 0 ≤ q0 ∧ q0 ≤ 100 := hq0 ▸ hcl.out _ (by omega) _
                have bO1 : 0 ≤ q1 ∧ q1 ≤ 100 := hq1 ▸ hcl.out _ (by omega) _
                have bD : 0 ≤ qD ∧ qD ≤ 100 := hqD ▸ hcl.out _ (by omega) _
                have bP1 := mul_bound bN1 (show 0 ≤ q0 + q1 ∧ q0 + q1 ≤ 200 by omega)
                have bP2 := mul_bound bP1 bD
                have dzh : (z : Int) / 2 = (zh : Int) := by omega
                have dzl : bits .and .i64 (z : Int) 1 = (zl : Int) := by rw [hzl]; exact band1 z (by omega)
                have dal : bits .and .i64 (a1 : Int) 1 = (al : Int) := by rw [hal]; exact band1 a1 (by omega)
                have lg1 : g1 ≤ 1 := hg1 ▸ bx_le _ _
                have lg2 : g2 ≤ 1 := hg2 ▸ bx_le _ _
                have xg1 : bits .xor .i64 (n : Int) (zh : Int) = (g1 : Int) := by rw [hg1]; exact bits_bx _ zh (by omega) (by omega)
                have xg2 : bits .xor .i64 (g1 : Int) (zl : Int) = (g2 : Int) := by rw [hg2]; exact bits_bx g1 zl lg1 (by omega)
                have xg3 : bits .xor .i64 (g2 : Int) (al : Int) = (g3 : Int) := by rw [hg3]; exact bits_bx g2 al lg2 (by omega)
                rw [← hsm] at hbZ ⊢
                have hszr := hB.size
                simp only [World.size_alloc] at hszr
                have hall0 := hA.trans (hB.mono (by omega))
                have cN := (row_at (iN.out.below hall0) (hl4.out _ (by omega)) a1 hla).2
                have cO := (row_at (iO.out.below hall0) (hl4.out _ (by omega)) (2 * f1) (by omega)).2
                have cO1 := (row_at (iO.out.below hall0) (hl4.out _ (by omega)) (2 * f1 + 1) (by omega)).2
                have cD := (row_at (iD.out.below hall0) (hl4.out _ (by omega)) z hlz).2
                rw [← hqN] at cN
                rw [← hq0] at cO
                rw [← hq1] at cO1
                rw [← hqD] at cD
                clear hT hqN hq0 hq1 hqD hzh hzl hal hg1 hg2 hg3
                replace hst := Lib.hid hst
                replace hsm := Lib.hid hsm
                cases hg : ((g3 : Int) == (kb : Int))
                · have hst2 : Hid (sumT F (8 * a1 + 4 * f1 + (z + 1)) = sm) := Lib.hid (by rw [hst.out, if_neg (by have := beq_eq_false_iff_ne.1 hg; omega)]; omega)
                  clear cN cO cO1 cD bP1 bP2
                  go_wp2
                  go_roundw
                  case rel => first | exact ⟨z + 1, by omega, by go_num, by rw [hst2.out], hB⟩ | ((repeat apply Exists.intro); exact ⟨⟨z + 1, by omega, rfl, by rw [hst2.out], hB⟩, rfl⟩)
                  case measure => simp [intOf]; omega
                · have hst2 : Hid (sumT F (8 * a1 + 4 * f1 + (z + 1)) = sm + qN * (q0 + q1) * qD) := Lib.hid (by rw [hst.out, if_pos (by have := eq_of_beq hg; omega)])
                  go_wp2_with fail
                  clear dzh dzl dal xg1 xg2 xg3 bk hg
                  refine wp_region_rkt (by kernel_rfl) [none, none, none, none, none, none, none, none, some 24, none, none, none, none, none, none, none, none, none, none, none, none, none, none, none, none, none, none, none, none, none, none, none, none, none, none, none, none, none, none, none, none, none, none, none, none, none, none, none, none, none, none, none, none, none, none, none, none, none, none, none, none, none, none, none, none, none, none, none, none, none, none, none, none, none, none, none, none, none, none, none, none, none, none, none, none, none, none, none, none, none, none, none, none, none, none, none, none, none, none, none, none, none, none, none, none, some 0, some 1, some 2, some 3, some 4, some 5, some 6, some 7, some 8, some 9, some 10, some 11, some 12, some 13, some 14, some 15, some 16, some 17, some 18, some 19, some 20, some 21, some 22, some 23] 23 24 (by kernel_rfl) (by kernel_rfl) (by kernel_rfl) _ _ rfl rfl 8 rfl w.heap.size [rkV (.int .i64 sm), rkV (.slice (some ⟨blN, offN, none⟩) 4 capN), rkV (.int .i64 (a1 : Int)), rkV (.pointer (some ⟨blN, offN + a1, none⟩)), rkV (.int .i64 qN), rkV (.slice (some ⟨blO, offO, none⟩) 4 capO), rkV (.int .i64 (f1 : Int)), rkV (.int .i64 (2 * (f1 : Int))), rkV (.pointer (some ⟨blO, offO + 2 * f1, none⟩)), rkV (.int .i64 q0), rkV (.slice (some ⟨blO, offO, none⟩) 4 capO), rkV (.int .i64 (f1 : Int)), rkV (.int .i64 (2 * (f1 : Int))), rkV (.int .i64 (2 * (f1 : Int) + 1)), rkV (.pointer (some ⟨blO, offO + (2 * f1 + 1), none⟩)), rkV (.int .i64 q1), rkV (.int .i64 (q0 + q1)), rkV (.int .i64 (qN * (q0 + q1))), rkV (.slice (some ⟨blD, offD, none⟩) 4 capD), rkV (.int .i64 (z : Int)), rkV (.pointer (some ⟨blD, offD + z, none⟩)), rkV (.int .i64 qD), rkV (.int .i64 (qN * (q0 + q1) * qD))] _ rfl (by kernel_rfl) (by simp) ?_ ?_
                  · intro i o ho hi hi2 u g ww hbw hu2 hd
                    replace hu2 : u 24 = .int .i64 sm := hu2
                    have hall : Below w.heap.size w ww := hall0.trans (hbw.mono (by omega))
                    have hlow : w.heap.size ≤ ww.heap.size := hall.size
                    obtain ⟨hcl, hfr⟩ := bcell hbw
                    have y_cN := (hcl _ _ (by omega)).trans cN
                    have y_cO := (hcl _ _ (by omega)).trans cO
                    have y_cO1 := (hcl _ _ (by omega)).trans cO1
                    have y_cD := (hcl _ _ (by omega)).trans cD
                    clear hcl hfr
                    rcases i with _ | _ | _ | _ | _ | _ | _ | _ | _ | _ | _ | _ | _ | _ | _ | _ | _ | _ | _ | _ | _ | _ | _ | _ | _ | i
                    all_goals try obtain rfl := Option.some.inj ho
                    all_goals try simp only [putAll, fillL]
                    · rw [hu2]
                      go_wp2
                      exact ⟨_, by simp only [putAll, fillL, hu2] <;> rfl, kept0 (Below.refl _ _), rfl⟩
                    · go_wp2
                      exact ⟨_, by simp only [putAll, fillL, hu2] <;> rfl, kept0 (Below.refl _ _), rfl⟩
                    · go_wp2
                      exact ⟨_, by simp only [putAll, fillL, hu2] <;> rfl, kept0 (Below.refl _ _), rfl⟩
                    · have e1 : u 1 = .slice (some ⟨blN, offN, none⟩) 4 capN := hd 1 (by decide)
                      rw [e1]
                      have e2 : u 2 = .int .i64 (a1 : Int) := hd 2 (by decide)
                      rw [e2]
                      go_wp2
                      exact ⟨_, by simp only [putAll, fillL, hu2, e1, e2] <;> rfl, kept0 (Below.refl _ _), rfl⟩
                    · have e3 : u 3 = .pointer (some ⟨blN, offN + a1, none⟩) := hd 3 (by decide)
                      rw [e3]
                      go_wp2
                      exact ⟨_, by simp only [putAll, fillL, hu2, e3] <;> rfl, kept0 (Below.refl _ _), rfl⟩
                    · go_wp2
                      exact ⟨_, by simp only [putAll, fillL, hu2] <;> rfl, kept0 (Below.refl _ _), rfl⟩
                    · go_wp2
                      exact ⟨_, by simp only [putAll, fillL, hu2] <;> rfl, kept0 (Below.refl _ _), rfl⟩
                    · have e6 : u 6 = .int .i64 (f1 : Int) := hd 6 (by decide)
                      rw [e6]
                      go_wp2
                      exact ⟨_, by simp only [putAll, fillL, hu2, e6] <;> rfl, kept0 (Below.refl _ _), rfl⟩
                    · have e5 : u 5 = .slice (some ⟨blO, offO, none⟩) 4 capO := hd 5 (by decide)
                      rw [e5]
                      have e7 : u 7 = .int .i64 (2 * (f1 : Int)) := hd 7 (by decide)
                      rw [e7]
                      go_wp2
                      exact ⟨_, by simp only [putAll, fillL, hu2, e5, e7] <;> rfl, kept0 (Below.refl _ _), rfl⟩
                    · have e8 : u 8 = .pointer (some ⟨blO, offO + 2 * f1, none⟩) := hd 8 (by decide)
                      rw [e8]
                      go_wp2
                      exact ⟨_, by simp only [putAll, fillL, hu2, e8] <;> rfl, kept0 (Below.refl _ _), rfl⟩
                    · go_wp2
                      exact ⟨_, by simp only [putAll, fillL, hu2] <;> rfl, kept0 (Below.refl _ _), rfl⟩
                    · go_wp2
                      exact ⟨_, by simp only [putAll, fillL, hu2] <;> rfl, kept0 (Below.refl _ _), rfl⟩
                    · have e11 : u 11 = .int .i64 (f1 : Int) := hd 11 (by decide)
                      rw [e11]
                      go_wp2
                      exact ⟨_, by simp only [putAll, fillL, hu2, e11] <;> rfl, kept0 (Below.refl _ _), rfl⟩
                    · have e12 : u 12 = .int .i64 (2 * (f1 : Int)) := hd 12 (by decide)
                      rw [e12]
                      go_wp2
                      exact ⟨_, by simp only [putAll, fillL, hu2, e12] <;> rfl, kept0 (Below.refl _ _), rfl⟩
                    · have e10 : u 10 = .slice (some ⟨blO, offO, none⟩) 4 capO := hd 10 (by decide)
                      rw [e10]
                      have e13 : u 13 = .int .i64 (2 * (f1 : Int) + 1) := hd 13 (by decide)
                      rw [e13]
                      go_wp2
                      exact ⟨_, by simp only [putAll, fillL, hu2, e10, e13] <;> rfl, kept0 (Below.refl _ _), rfl⟩
                    · have e14 : u 14 = .pointer (some ⟨blO, offO + (2 * f1 + 1), none⟩) := hd 14 (by decide)
                      rw [e14]
                      go_wp2
                      exact ⟨_, by simp only [putAll, fillL, hu2, e14] <;> rfl, kept0 (Below.refl _ _), rfl⟩
                    · have e9 : u 9 = .int .i64 q0 := hd 9 (by decide)
                      rw [e9]
                      have e15 : u 15 = .int .i64 q1 := hd 15 (by decide)
                      rw [e15]
                      go_wp2
                      exact ⟨_, by simp only [putAll, fillL, hu2, e9, e15] <;> rfl, kept0 (Below.refl _ _), rfl⟩
                    · have e4 : u 4 = .int .i64 qN := hd 4 (by decide)
                      rw [e4]
                      have e16 : u 16 = .int .i64 (q0 + q1) := hd 16 (by decide)
                      rw [e16]
                      go_wp2
                      exact ⟨_, by simp only [putAll, fillL, hu2, e4, e16] <;> rfl, kept0 (Below.refl _ _), rfl⟩
                    · go_wp2
                      exact ⟨_, by simp only [putAll, fillL, hu2] <;> rfl, kept0 (Below.refl _ _), rfl⟩
                    · go_wp2
                      exact ⟨_, by simp only [putAll, fillL, hu2] <;> rfl, kept0 (Below.refl _ _), rfl⟩
                    · have e18 : u 18 = .slice (some ⟨blD, offD, none⟩) 4 capD := hd 18 (by decide)
                      rw [e18]
                      have e19 : u 19 = .int .i64 (z : Int) := hd 19 (by decide)
                      rw [e19]
                      go_wp2
                      exact ⟨_, by simp only [putAll, fillL, hu2, e18, e19] <;> rfl, kept0 (Below.refl _ _), rfl⟩
                    · have e20 : u 20 = .pointer (some ⟨blD, offD + z, none⟩) := hd 20 (by decide)
                      rw [e20]
                      go_wp2
                      exact ⟨_, by simp only [putAll, fillL, hu2, e20] <;> rfl, kept0 (Below.refl _ _), rfl⟩
                    · have e17 : u 17 = .int .i64 (qN * (q0 + q1)) := hd 17 (by decide)
                      rw [e17]
                      have e21 : u 21 = .int .i64 qD := hd 21 (by decide)
                      rw [e21]
                      go_wp2
                      exact ⟨_, by simp only [putAll, fillL, hu2, e17, e21] <;> rfl, kept0 (Below.refl _ _), rfl⟩
                    · exact absurd rfl hi
                    · exact absurd rfl hi2
                    · simp at ho
                  · intro uu g w7 hbw hu2 hR hAp
                    have e22 : uu 22 = .int .i64 (qN * (q0 + q1) * qD) := hR 22 (by decide) (by decide) (by decide)
                    have e0 : uu 0 = .int .i64 sm := hR 0 (by decide) (by decide) (by decide)
                    replace hu2 : uu 24 = .int .i64 sm := hu2
                    have hB7 := hB.trans (hbw.mono (by omega))
                    clear hR hAp cN cO cO1 cD hbw hB hall0
                    simp only [putAll, fillL]
                    rw [hu2, e22, e0]
                    clear hu2 e22 e0
                    go_wp2
                    go_roundw
                    case rel => first | exact ⟨z + 1, by omega, by go_num, by rw [hst2.out], hB7⟩ | ((repeat apply Exists.intro); exact ⟨⟨z + 1, by omega, rfl, by rw [hst2.out], hB7⟩, rfl⟩)
                    case measure => simp [intOf]; omega
              · obtain rfl : z = 4 := by omega
                go_wp2
                go_roundw
                case rel => first | exact ⟨f1 + 1, by omega, by go_num, by rw [show 8 * a1 + 4 * (f1 + 1) = 8 * a1 + 4 * f1 + 4 by omega], hB⟩ | ((repeat apply Exists.intro); exact ⟨⟨f1 + 1, by omega, rfl, by rw [show 8 * a1 + 4 * (f1 + 1) = 8 * a1 + 4 * f1 + 4 by omega], hB⟩, rfl⟩)
                case measure => simp [intOf]; omega
          · obtain rfl : f1 = 2 := by omega
            go_wp2
            go_roundw
            case rel => first | exact ⟨a1 + 1, by omega, by go_num, by rw [show 8 * (a1 + 1) = 8 * a1 + 4 * 2 by omega], hB⟩ | ((repeat apply Exists.intro); exact ⟨⟨a1 + 1, by omega, rfl, by rw [show 8 * (a1 + 1) = 8 * a1 + 4 * 2 by omega], hB⟩, rfl⟩)
            case measure => simp [intOf]; omega
      · obtain rfl : a1 = 4 := by omega
        have hall := hA.trans (hB.mono (by omega))
        go_wp2
        go_ret
        exact ⟨by rw [hRes.out]; rfl, hall⟩

set_option maxRecDepth 100000 in
set_option maxHeartbeats 8000000 in
theorem c_l9Right3 (v : Value) (r : BoxD) (k : Nat) (w : World) (h : BoxR w v r) (hc : chainB r = true) (hk : k < 16) :
    Calls Try.prog 81 #[v, .int .i64 k, .int .i64 3] w fun e w' => e = .returned (.int .i64 (rightV r k 3)) ∧ Below w.heap.size w w' := by
  obtain ⟨v4, rfl, hr⟩ := id h
  obtain ⟨a4, k4, rfl, l4⟩ := hr.out
  have hA := (Below.refl w.heap.size w).alloc (Nat.le_refl _) (.cells #[.int .i64 r.x, .int .i64 r.y, .int .i64 r.w, .slice a4 r.r.length k4] 50)
  have pB : (w.alloc (.cells #[.int .i64 r.x, .int .i64 r.y, .int .i64 r.w, .slice a4 r.r.length k4] 50)).heap[w.heap.size]? = some (.cells #[.int .i64 r.x, .int .i64 r.y, .int .i64 r.w, .slice a4 r.r.length k4] 50 (0, 0)) := heap_alloc_at rfl
  have hp : pairB r = true := by unfold chainB at hc; simp only [Bool.and_eq_true] at hc; exact hc.1
  obtain ⟨hbb, hxx, hyy, hlen⟩ := pairB_facts hp
  have hl4 := fun q (hq : q < 4) => (boxB_row hbb (show q < r.r.length by omega)).1
  have hcl := fun q (hq : q < 4) => chain_cell hc hq
  clear hp
  replace hbb := Lib.hid hbb
  replace hlen := Lib.hid hlen
  replace hxx := Lib.hid hxx
  replace hyy := Lib.hid hyy
  replace hc := Lib.hid hc
  replace hl4 := Lib.hid hl4
  replace hcl := Lib.hid hcl
  obtain ⟨s, hs⟩ : ∃ s, s = bN 2 k := ⟨_, rfl⟩
  obtain ⟨t, ht⟩ : ∃ t, t = bN 3 k := ⟨_, rfl⟩
  obtain ⟨c, hu⟩ : ∃ c, c = bN 0 k := ⟨_, rfl⟩
  obtain ⟨d, hv⟩ : ∃ d, d = bN 1 k := ⟨_, rfl⟩
  obtain ⟨kb, hkb⟩ : ∃ kb, kb = bN 3 k := ⟨_, rfl⟩
  have ls : s ≤ 1 := hs ▸ bN_le _ _
  have lt : t ≤ 1 := ht ▸ bN_le _ _
  have lu : c ≤ 1 := hu ▸ bN_le _ _
  have lv : d ≤ 1 := hv ▸ bN_le _ _
  have bs : bits .and .i64 ((k : Int) / 4) 1 = (s : Int) := by rw [hs]; have := bandN k (2 ^ 2) 2 (by omega) rfl; simpa using this
  have bt : bits .and .i64 ((k : Int) / 8) 1 = (t : Int) := by rw [ht]; have := bandN k (2 ^ 3) 3 (by omega) rfl; simpa using this
  have bu : bits .and .i64 (k : Int) 1 = (c : Int) := by rw [hu]; have := bandN k (2 ^ 0) 0 (by omega) rfl; simpa using this
  have bv : bits .and .i64 ((k : Int) / 2) 1 = (d : Int) := by rw [hv]; have := bandN k (2 ^ 1) 1 (by omega) rfl; simpa using this
  have bk : bits .and .i64 ((k : Int) / 8) 1 = (kb : Int) := by rw [hkb]; have := bandN k (2 ^ 3) 3 (by omega) rfl; simpa using this
  have lx := bx_le s t
  have ly := bx_le c d
  have xst := bits_bx s t ls lt
  have xuv := bits_bx c d lu lv
  obtain ⟨F, hF⟩ : ∃ F, F = fS r 1 kb s c (bx s t * 2 + 1) (bx c d * 2 + 0) := ⟨_, rfl⟩
  have hRes : Hid (rightV r k 3 = sumT F 32) := Lib.hid (by rw [hF, hs, ht, hu, hv, hkb]; rfl)
  obtain ⟨x, hx⟩ : ∃ x, x = bx s t := ⟨_, rfl⟩
  obtain ⟨y, hy⟩ : ∃ y, y = bx c d := ⟨_, rfl⟩
  rw [← hx] at lx xst hF
  rw [← hy] at ly xuv hF
  have hFb := sumT_bound (F := F) (fun q => by rw [hF]; exact tT_bound hc.out (by decide) (by omega) (by omega))
  obtain ⟨vN, iN, kN⟩ := at_l2Row _ r x 1 2 w h hyy.out (by omega) (by rw [hlen.out]; omega)
  obtain ⟨vO, iO, kO⟩ := at_l2Row _ r y 0 2 w h hyy.out (by omega) (by rw [hlen.out]; omega)
  obtain ⟨blN, offN, capN, rfl⟩ := row_form iN (hl4.out _ (by omega))
  obtain ⟨blO, offO, capO, rfl⟩ := row_form iO (hl4.out _ (by omega))
  have kD := fun e (he : e ≤ 1) => at_l2Row _ r e 1 2 w h hyy.out (by omega) (by rw [hlen.out]; omega)
  replace hs := Lib.hid hs
  replace ht := Lib.hid ht
  replace hu := Lib.hid hu
  replace hv := Lib.hid hv
  replace hkb := Lib.hid hkb
  replace hF := Lib.hid hF
  replace hFb := Lib.hid hFb
  replace hx := Lib.hid hx
  replace hy := Lib.hid hy
  replace iN := Lib.hid iN
  replace kN := Lib.hid kN
  replace iO := Lib.hid iO
  replace kO := Lib.hid kO
  replace kD := Lib.hid kD
  go_enter Try.func81, Try.ntmps81
  have hBd := fun a b => below_drewN (below_drewN (Below.refl (w.heap.size + 1) (w.alloc (.cells #[.int .i64 r.x, .int .i64 r.y, .int .i64 r.w, .slice a4 r.r.length k4] 50))) a) b
  go_wp2_with fail
  go_quiet (fail)
  all_goals go_wp2_with fail
  go_quiet (fail)
  all_goals go_wp2_with fail
  generalize hwd : World.drewN (World.drewN _ _) _ = wd
  replace hBd : Below (w.heap.size + 1) (w.alloc (.cells #[.int .i64 r.x, .int .i64 r.y, .int .i64 r.w, .slice a4 r.r.length k4] 50)) wd := hwd ▸ hBd _ _
  clear hwd
  have hszd := hBd.size
  simp only [World.size_alloc] at hszd
  have halld := hA.trans (hBd.mono (by omega))
  obtain ⟨⟨z0, z1, z2, z3⟩, -⟩ := blk4 ((hBd.block _ (by omega)).trans pB)
  clear bs bt bu bv
  refine wp_region_rk (by kernel_rfl) [none, none, none, none, none, none, none, none, none, none, none, none, none, some 12, some 13, none, none, none, none, none, none, none, none, none, none, none, none, none, none, none, none, none, none, none, none, none, none, none, none, none, none, none, none, none, none, none, none, none, some 0, some 1, some 2, some 3, some 4, some 5, some 6, some 7, some 8, some 9, some 10, some 11] 13 (by kernel_rfl) (by kernel_rfl) (by kernel_rfl) _ rfl w.heap.size [rkV (.agg #[.int .i64 r.x, .int .i64 r.y, .int .i64 r.w, .slice a4 r.r.length k4]), rkV (.int .i64 (s : Int)), rkV (.int .i64 (t : Int)), rkV (.int .i64 (x : Int)), rkV (.int .i64 3), rkV (.int .i64 1), rkV (.slice (some ⟨blN, offN, none⟩) 4 capN), rkV (.agg #[.int .i64 r.x, .int .i64 r.y, .int .i64 r.w, .slice a4 r.r.length k4]), rkV (.int .i64 (c : Int)), rkV (.int .i64 (d : Int)), rkV (.int .i64 (y : Int)), rkV (.slice (some ⟨blO, offO, none⟩) 4 capO), rkV (.slice (some ⟨blN, offN, none⟩) 4 capN)] _ rfl (by kernel_rfl) (by simp) ?_ ?_
  · intro i o ho hi u g ww hbw hd
    have hall : Below w.heap.size w ww := halld.trans (hbw.mono (by omega))
    have hlow : w.heap.size ≤ ww.heap.size := hall.size
    obtain ⟨hcl, hfr⟩ := bcell hbw
    have y_z0 := (hcl _ _ (by omega)).trans z0
    have y_z1 := (hcl _ _ (by omega)).trans z1
    have y_z2 := (hcl _ _ (by omega)).trans z2
    have y_z3 := (hcl _ _ (by omega)).trans z3
    clear hcl hfr
    rcases i with _ | _ | _ | _ | _ | _ | _ | _ | _ | _ | _ | _ | _ | _ | i
    all_goals try obtain rfl := Option.some.inj ho
    all_goals try simp only [putAll, fillL]
    · go_wp2
      exact ⟨_, rfl, kept0 (Below.refl _ _), rfl⟩
    · go_wp2
      exact ⟨_, rfl, kept0 (Below.refl _ _), rfl⟩
    · go_wp2
      exact ⟨_, rfl, kept0 (Below.refl _ _), rfl⟩
    · have e1 : u 1 = .int .i64 (s : Int) := hd 1 (by decide)
      rw [e1]
      have e2 : u 2 = .int .i64 (t : Int) := hd 2 (by decide)
      rw [e2]
      go_wp2
      exact ⟨_, by simp only [putAll, fillL, e1, e2] <;> rfl, kept0 (Below.refl _ _), rfl⟩
    · go_wp2
      exact ⟨_, rfl, kept0 (Below.refl _ _), rfl⟩
    · have e4 : u 4 = .int .i64 3 := hd 4 (by decide)
      rw [e4]
      go_wp2
      exact ⟨_, by simp only [putAll, fillL, e4] <;> rfl, kept0 (Below.refl _ _), rfl⟩
    · have e0 : u 0 = .agg #[.int .i64 r.x, .int .i64 r.y, .int .i64 r.w, .slice a4 r.r.length k4] := hd 0 (by decide)
      rw [e0]
      have e3 : u 3 = .int .i64 (x : Int) := hd 3 (by decide)
      rw [e3]
      have e5 : u 5 = .int .i64 1 := hd 5 (by decide)
      rw [e5]
      go_wp2_with fail
      refine (kN.out _ hall).mono ?_
      rintro e wn ⟨rfl, hbn⟩
      go_wp2
      exact ⟨_, by simp only [putAll, fillL, e0, e3, e5] <;> rfl, kept0 hbn, rfl⟩
    · go_wp2
      exact ⟨_, rfl, kept0 (Below.refl _ _), rfl⟩
    · go_wp2
      exact ⟨_, rfl, kept0 (Below.refl _ _), rfl⟩
    · go_wp2
      exact ⟨_, rfl, kept0 (Below.refl _ _), rfl⟩
    · have e8 : u 8 = .int .i64 (c : Int) := hd 8 (by decide)
      rw [e8]
      have e9 : u 9 = .int .i64 (d : Int) := hd 9 (by decide)
      rw [e9]
      go_wp2
      exact ⟨_, by simp only [putAll, fillL, e8, e9] <;> rfl, kept0 (Below.refl _ _), rfl⟩
    · have e7 : u 7 = .agg #[.int .i64 r.x, .int .i64 r.y, .int .i64 r.w, .slice a4 r.r.length k4] := hd 7 (by decide)
      rw [e7]
      have e10 : u 10 = .int .i64 (y : Int) := hd 10 (by decide)
      rw [e10]
      go_wp2_with fail
      refine (kO.out _ hall).mono ?_
      rintro e wn ⟨rfl, hbn⟩
      go_wp2
      exact ⟨_, by simp only [putAll, fillL, e7, e10] <;> rfl, kept0 hbn, rfl⟩
    · have e6 : u 6 = .slice (some ⟨blN, offN, none⟩) 4 capN := hd 6 (by decide)
      rw [e6]
      go_wp2
      exact ⟨_, by simp only [putAll, fillL, e6] <;> rfl, kept0 (Below.refl _ _), rfl⟩
    · exact absurd rfl hi
    · simp at ho
  · intro uu g w5 hbw hR hAp
    have e12 : uu 12 = .slice (some ⟨blN, offN, none⟩) 4 capN := hR 12 (by decide) (by decide)
    have e11 : uu 11 = .slice (some ⟨blO, offO, none⟩) 4 capO := hR 11 (by decide) (by decide)
    have hB5 := hBd.trans (hbw.mono (by omega))
    clear hR hAp z0 z1 z2 z3 hbw hBd halld xst xuv
    simp only [putAll, fillL]
    rw [e12, e11]
    clear e12 e11
    go_wp2_with fail
    have hsz5 := hB5.size
    simp only [World.size_alloc] at hsz5
    have lblN := (row_at iN.out (hl4.out _ (by omega)) 0 (by decide)).1
    have lblO := (row_at iO.out (hl4.out _ (by omega)) 0 (by decide)).1
    go_loopw [8, 15] (fun sm a wr => ∃ a1 : Nat, a1 ≤ 4 ∧ a = .int .i64 a1 ∧ sm = .int .i64 (sumT F (8 * a1)) ∧ Below (w.heap.size + 1) (w.alloc (.cells #[.int .i64 r.x, .int .i64 r.y, .int .i64 r.w, .slice a4 r.r.length k4] 50)) wr) (fun _ a _ => 4 - (intOf a).toNat)
    case atStart => exact ⟨0, by omega, rfl, rfl, hB5⟩
    case round =>
      clear hB5
      obtain ⟨a1, ha1, rfl, rfl, hB⟩ := hrel
      have hbA := hFb.out (8 * a1)
      by_cases hla : a1 < 4
      · have hda : decide ((a1 : Int) < 4) = true := by simp; omega
        go_wp2_with fail
        go_loopw [8, 16] (fun sm a wr => ∃ f1 : Nat, f1 ≤ 2 ∧ a = .int .i64 f1 ∧ sm = .int .i64 (sumT F (8 * a1 + 4 * f1)) ∧ Below (w.heap.size + 1) (w.alloc (.cells #[.int .i64 r.x, .int .i64 r.y, .int .i64 r.w, .slice a4 r.r.length k4] 50)) wr) (fun _ a _ => 2 - (intOf a).toNat)
        case atStart => exact ⟨0, by omega, rfl, rfl, hB⟩
        case round =>
          clear hB
          obtain ⟨f1, hf1, rfl, rfl, hB⟩ := hrel
          have hbF := hFb.out (8 * a1 + 4 * f1)
          by_cases hlf : f1 < 2
          · have hdf : decide ((f1 : Int) < 2) = true := by simp; omega
            obtain ⟨ah, hah⟩ : ∃ q, q = a1 / 2 := ⟨_, rfl⟩
            have lah : ah ≤ 1 := by omega
            have dah : (a1 : Int) / 2 = (ah : Int) := by omega
            obtain ⟨m, hm⟩ : ∃ q, q = bx s ah := ⟨_, rfl⟩
            obtain ⟨n, hn⟩ : ∃ q, q = bx c f1 := ⟨_, rfl⟩
            obtain ⟨dd, hdd⟩ : ∃ q, q = bx m n := ⟨_, rfl⟩
            have lm : m ≤ 1 := hm ▸ bx_le _ _
            have ln : n ≤ 1 := hn ▸ bx_le _ _
            have ld : dd ≤ 1 := hdd ▸ bx_le _ _
            have xm : bits .xor .i64 (s : Int) (ah : Int) = (m : Int) := by rw [hm]; exact bits_bx s ah ls lah
            have xn : bits .xor .i64 (c : Int) (f1 : Int) = (n : Int) := by rw [hn]; exact bits_bx c f1 lu (by omega)
            have xd : bits .xor .i64 (m : Int) (n : Int) = (dd : Int) := by rw [hdd]; exact bits_bx m n lm ln
            obtain ⟨vD, iD, kD2⟩ := kD.out dd ld
            obtain ⟨blD, offD, capD, rfl⟩ := row_form iD (hl4.out _ (by omega))
            have lblD := (row_at iD (hl4.out _ (by omega)) 0 (by decide)).1
            replace iD := Lib.hid iD
            replace kD2 := Lib.hid kD2
            replace hah := Lib.hid hah
            replace hm := Lib.hid hm
            replace hn := Lib.hid hn
            replace hdd := Lib.hid hdd
            have hszr := hB.size
            simp only [World.size_alloc] at hszr
            have hall := hA.trans (hB.mono (by omega))
            obtain ⟨⟨z0, z1, z2, z3⟩, -⟩ := blk4 ((hB.block _ (by omega)).trans pB)
            go_wp2_with fail
            refine (kD2.out _ hall).mono ?_
            clear z0 z1 z2 z3
            rintro e w6 ⟨rfl, hb6⟩
            have hB6 := hB.trans (hb6.mono (by omega))
            clear hB hb6 hall dah xm xn xd
            go_wp2_with fail
            go_loopw [8, 21] (fun sm a wr => ∃ z : Nat, z ≤ 4 ∧ a = .int .i64 z ∧ sm = .int .i64 (sumT F (8 * a1 + 4 * f1 + z)) ∧ Below (w.heap.size + 1) (w.alloc (.cells #[.int .i64 r.x, .int .i64 r.y, .int .i64 r.w, .slice a4 r.r.length k4] 50)) wr) (fun _ a _ => 4 - (intOf a).toNat)
            case atStart => exact ⟨0, by omega, rfl, rfl, hB6⟩
            case round =>
              clear hB6
              obtain ⟨z, hz, rfl, rfl, hB⟩ := hrel
              have hbZ := hFb.out (8 * a1 + 4 * f1 + z)
              by_cases hlz : z < 4
              · have hdz : decide ((z : Int) < 4) = true := by simp; omega
                obtain ⟨sm, hsm⟩ : ∃ q, q = sumT F (8 * a1 + 4 * f1 + z) := ⟨_, rfl⟩
                obtain ⟨qN, hqN⟩ : ∃ q, q = cellB r (x * 2 + 1) a1 := ⟨_, rfl⟩
                obtain ⟨q0, hq0⟩ : ∃ q, q = cellB r (y * 2 + 0) (2 * f1) := ⟨_, rfl⟩
                obtain ⟨q1, hq1⟩ : ∃ q, q = cellB r (y * 2 + 0) (2 * f1 + 1) := ⟨_, rfl⟩
                obtain ⟨qD, hqD⟩ : ∃ q, q = cellB r (dd * 2 + 1) z := ⟨_, rfl⟩
                obtain ⟨zh, hzh⟩ : ∃ q, q = z / 2 := ⟨_, rfl⟩
                obtain ⟨zl, hzl⟩ : ∃ q, q = z % 2 := ⟨_, rfl⟩
                obtain ⟨al, hal⟩ : ∃ q, q = a1 % 2 := ⟨_, rfl⟩
                obtain ⟨g1, hg1⟩ : ∃ q, q = bx n zh := ⟨_, rfl⟩
                obtain ⟨g2, hg2⟩ : ∃ q, q = bx g1 zl := ⟨_, rfl⟩
                obtain ⟨g3, hg3⟩ : ∃ q, q = bx g2 al := ⟨_, rfl⟩
                have hT : F (8 * a1 + 4 * f1 + z) = if g3 = kb then qN * (q0 + q1) * qD else 0 := by
                  rw [hF.out]
                  unfold fS tT
                  rw [show (8 * a1 + 4 * f1 + z) / 8 = a1 by omega, show (8 * a1 + 4 * f1 + z) / 4 % 2 = f1 by omega, show (8 * a1 + 4 * f1 + z) % 4 = z by omega]
                  rw [hg3, hg2, hg1, hqN, hq0, hq1, hqD, hdd.out, hm.out, hn.out, hah.out, hzh, hzl, hal]
                  rfl
                have hst : sumT F (8 * a1 + 4 * f1 + (z + 1)) = sm + F (8 * a1 + 4 * f1 + z) := by rw [hsm]; rfl
                rw [hT] at hst
                have bN1 : 0 ≤ qN ∧ qN ≤ 100 := hqN ▸ hcl.out _ (by omega) _
                have bO0 : 0 ≤ q0 ∧ q0 ≤ 100 := hq0 ▸ hcl.out _ (by omega) _
                have bO1 : 0 ≤ q1 ∧ q1 ≤ 100 := hq1 ▸ hcl.out _ (by omega) _
                have bD : 0 ≤ qD ∧ qD ≤ 100 := hqD ▸ hcl.out _ (by omega) _
                have bP1 := mul_bound bN1 (show 0 ≤ q0 + q1 ∧ q0 + q1 ≤ 200 by omega)
                have bP2 := mul_bound bP1 bD
                have dzh : (z : Int) / 2 = (zh : Int) := by omega
                have dzl : bits .and .i64 (z : Int) 1 = (zl : Int) := by rw [hzl]; exact band1 z (by omega)
                have dal : bits .and .i64 (a1 : Int) 1 = (al : Int) := by rw [hal]; exact band1 a1 (by omega)
                have lg1 : g1 ≤ 1 := hg1 ▸ bx_le _ _
                have lg2 : g2 ≤ 1 := hg2 ▸ bx_le _ _
                have xg1 : bits .xor .i64 (n : Int) (zh : Int) = (g1 : Int) := by rw [hg1]; exact bits_bx _ zh (by omega) (by omega)
                have xg2 : bits .xor .i64 (g1 : Int) (zl : Int) = (g2 : Int) := by rw [hg2]; exact bits_bx g1 zl lg1 (by omega)
                have xg3 : bits .xor .i64 (g2 : Int) (al : Int) = (g3 : Int) := by rw [hg3]; exact bits_bx g2 al lg2 (by omega)
                rw [← hsm] at hbZ ⊢
                have hszr := hB.size
                simp only [World.size_alloc] at hszr
                have hall0 := hA.trans (hB.mono (by omega))
                have cN := (row_at (iN.out.below hall0) (hl4.out _ (by omega)) a1 hla).2
                have cO := (row_at (iO.out.below hall0) (hl4.out _ (by omega)) (2 * f1) (by omega)).2
                have cO1 := (row_at (iO.out.below hall0) (hl4.out _ (by omega)) (2 * f1 + 1) (by omega)).2
                have cD := (row_at (iD.out.below hall0) (hl4.out _ (by omega)) z hlz).2
                rw [← hqN] at cN
                rw [← hq0] at cO
                rw [← hq1] at cO1
                rw [← hqD] at cD
                clear hT hqN hq0 hq1 hqD hzh hzl hal hg1 hg2 hg3
                replace hst := Lib.hid hst
                replace hsm := Lib.hid hsm
                cases hg : ((g3 : Int) == (kb : Int))
                · have hst2 : Hid (sumT F (8 * a1 + 4 * f1 + (z + 1)) = sm) := Lib.hid (by rw [hst.out, if_neg (by have := beq_eq_false_iff_ne.1 hg; omega)]; omega)
                  clear cN cO cO1 cD bP1 bP2
                  go_wp2
                  go_roundw
                  case rel => first | exact ⟨z + 1, by omega, by go_num, by rw [hst2.out], hB⟩ | ((repeat apply Exists.intro); exact ⟨⟨z + 1, by omega, rfl, by rw [hst2.out], hB⟩, rfl⟩)
                  case measure => simp [intOf]; omega
                · have hst2 : Hid (sumT F (8 * a1 + 4 * f1 + (z + 1)) = sm + qN * (q0 + q1) * qD) := Lib.hid (by rw [hst.out, if_pos (by have := eq_of_beq hg; omega)])
                  go_wp2_with fail
                  clear dzh dzl dal xg1 xg2 xg3 bk hg
                  refine wp_region_rkt (by kernel_rfl) [none, none, none, none, none, none, none, none, some 24, none, none, none, none, none, none, none, none, none, none, none, none, none, none, none, none, none, none, none, none, none, none, none, none, none, none, none, none, none, none, none, none, none, none, none, none, none, none, none, none, none, none, none, none, none, none, none, none, none, none, none, none, none, none, none, none, none, none, none, none, none, none, none, none, none, none, none, none, none, none, none, none, none, none, none, none, none, none, none, none, none, none, none, none, none, none, none, none, none, none, none, none, none, none, none, none, some 0, some 1, some 2, some 3, some 4, some 5, some 6, some 7, some 8, some 9, some 10, some 11, some 12, some 13, some 14, some 15, some 16, some 17, some 18, some 19, some 20, some 21, some 22, some 23] 23 24 (by kernel_rfl) (by kernel_rfl) (by kernel_rfl) _ _ rfl rfl 8 rfl w.heap.size [rkV (.int .i64 sm), rkV (.slice (some ⟨blN, offN, none⟩) 4 capN), rkV (.int .i64 (a1 : Int)), rkV (.pointer (some ⟨blN, offN + a1, none⟩)), rkV (.int .i64 qN), rkV (.slice (some ⟨blO, offO, none⟩) 4 capO), rkV (.int .i64 (f1 : Int)), rkV (.int .i64 (2 * (f1 : Int))), rkV (.pointer (some ⟨blO, offO + 2 * f1, none⟩)), rkV (.int .i64 q0), rkV (.slice (some ⟨blO, offO, none⟩) 4 capO), rkV (.int .i64 (f1 : Int)), rkV (.int .i64 (2 * (f1 : Int))), rkV (.int .i64 (2 * (f1 : Int) + 1)), rkV (.pointer (some ⟨blO, offO + (2 * f1 + 1), none⟩)), rkV (.int .i64 q1), rkV (.int .i64 (q0 + q1)), rkV (.int .i64 (qN * (q0 + q1))), rkV (.slice (some ⟨blD, offD, none⟩) 4 capD), rkV (.int .i64 (z : Int)), rkV (.pointer (some ⟨blD, offD + z, none⟩)), rkV (.int .i64 qD), rkV (.int .i64 (qN * (q0 + q1) * qD))] _ rfl (by kernel_rfl) (by simp) ?_ ?_
                  · intro i o ho hi hi2 u g ww hbw hu2 hd
                    replace hu2 : u 24 = .int .i64 sm := hu2
                    have hall : Below w.heap.size w ww := hall0.trans (hbw.mono (by omega))
                    have hlow : w.heap.size ≤ ww.heap.size := hall.size
                    obtain ⟨hcl, hfr⟩ := bcell hbw
                    have y_cN := (hcl _ _ (by omega)).trans cN
                    have y_cO := (hcl _ _ (by omega)).trans cO
                    have y_cO1 := (hcl _ _ (by omega)).trans cO1
                    have y_cD := (hcl _ _ (by omega)).trans cD
                    clear hcl hfr
                    rcases i with _ | _ | _ | _ | _ | _ | _ | _ | _ | _ | _ | _ | _ | _ | _ | _ | _ | _ | _ | _ | _ | _ | _ | _ | _ | i
                    all_goals try obtain rfl := Option.some.inj ho
                    all_goals try simp only [putAll, fillL]
                    · rw [hu2]
                      go_wp2
                      exact ⟨_, by simp only [putAll, fillL, hu2] <;> rfl, kept0 (Below.refl _ _), rfl⟩
                    · go_wp2
                      exact ⟨_, by simp only [putAll, fillL, hu2] <;> rfl, kept0 (Below.refl _ _), rfl⟩
                    · go_wp2
                      exact ⟨_, by simp only [putAll, fillL, hu2] <;> rfl, kept0 (Below.refl _ _), rfl⟩
                    · have e1 : u 1 = .slice (some ⟨blN, offN, none⟩) 4 capN := hd 1 (by decide)
                      rw [e1]
                      have e2 : u 2 = .int .i64 (a1 : Int) := hd 2 (by decide)
                      rw [e2]
                      go_wp2
                      exact ⟨_, by simp only [putAll, fillL, hu2, e1, e2] <;> rfl, kept0 (Below.refl _ _), rfl⟩
                    · have e3 : u 3 = .pointer (some ⟨blN, offN + a1, none⟩) := hd 3 (by decide)
                      rw [e3]
                      go_wp2
                      exact ⟨_, by simp only [putAll, fillL, hu2, e3] <;> rfl, kept0 (Below.refl _ _), rfl⟩
                    · go_wp2
                      exact ⟨_, by simp only [putAll, fillL, hu2] <;> rfl, kept0 (Below.refl _ _), rfl⟩
                    · go_wp2
                      exact ⟨_, by simp only [putAll, fillL, hu2] <;> rfl, kept0 (Below.refl _ _), rfl⟩
                    · have e6 : u 6 = .int .i64 (f1 : Int) := hd 6 (by decide)
                      rw [e6]
                      go_wp2
                      exact ⟨_, by simp only [putAll, fillL, hu2, e6] <;> rfl, kept0 (Below.refl _ _), rfl⟩
                    · have e5 : u 5 = .slice (some ⟨blO, offO, none⟩) 4 capO := hd 5 (by decide)
                      rw [e5]
                      have e7 : u 7 = .int .i64 (2 * (f1 : Int)) := hd 7 (by decide)
                      rw [e7]
                      go_wp2
                      exact ⟨_, by simp only [putAll, fillL, hu2, e5, e7] <;> rfl, kept0 (Below.refl _ _), rfl⟩
                    · have e8 : u 8 = .pointer (some ⟨blO, offO + 2 * f1, none⟩) := hd 8 (by decide)
                      rw [e8]
                      go_wp2
                      exact ⟨_, by simp only [putAll, fillL, hu2, e8] <;> rfl, kept0 (Below.refl _ _), rfl⟩
                    · go_wp2
                      exact ⟨_, by simp only [putAll, fillL, hu2] <;> rfl, kept0 (Below.refl _ _), rfl⟩
                    · go_wp2
                      exact ⟨_, by simp only [putAll, fillL, hu2] <;> rfl, kept0 (Below.refl _ _), rfl⟩
                    · have e11 : u 11 = .int .i64 (f1 : Int) := hd 11 (by decide)
                      rw [e11]
                      go_wp2
                      exact ⟨_, by simp only [putAll, fillL, hu2, e11] <;> rfl, kept0 (Below.refl _ _), rfl⟩
                    · have e12 : u 12 = .int .i64 (2 * (f1 : Int)) := hd 12 (by decide)
                      rw [e12]
                      go_wp2
                      exact ⟨_, by simp only [putAll, fillL, hu2, e12] <;> rfl, kept0 (Below.refl _ _), rfl⟩
                    · have e10 : u 10 = .slice (some ⟨blO, offO, none⟩) 4 capO := hd 10 (by decide)
                      rw [e10]
                      have e13 : u 13 = .int .i64 (2 * (f1 : Int) + 1) := hd 13 (by decide)
                      rw [e13]
                      go_wp2
                      exact ⟨_, by simp only [putAll, fillL, hu2, e10, e13] <;> rfl, kept0 (Below.refl _ _), rfl⟩
                    · have e14 : u 14 = .pointer (some ⟨blO, offO + (2 * f1 + 1), none⟩) := hd 14 (by decide)
                      rw [e14]
                      go_wp2
                      exact ⟨_, by simp only [putAll, fillL, hu2, e14] <;> rfl, kept0 (Below.refl _ _), rfl⟩
                    · have e9 : u 9 = .int .i64 q0 := hd 9 (by decide)
                      rw [e9]
                      have e15 : u 15 = .int .i64 q1 := hd 15 (by decide)
                      rw [e15]
                      go_wp2
                      exact ⟨_, by simp only [putAll, fillL, hu2, e9, e15] <;> rfl, kept0 (Below.refl _ _), rfl⟩
                    · have e4 : u 4 = .int .i64 qN := hd 4 (by decide)
                      rw [e4]
                      have e16 : u 16 = .int .i64 (q0 + q1) := hd 16 (by decide)
                      rw [e16]
                      go_wp2
                      exact ⟨_, by simp only [putAll, fillL, hu2, e4, e16] <;> rfl, kept0 (Below.refl _ _), rfl⟩
                    · go_wp2
                      exact ⟨_, by simp only [putAll, fillL, hu2] <;> rfl, kept0 (Below.refl _ _), rfl⟩
                    · go_wp2
                      exact ⟨_, by simp only [putAll, fillL, hu2] <;> rfl, kept0 (Below.refl _ _), rfl⟩
                    · have e18 : u 18 = .slice (some ⟨blD, offD, none⟩) 4 capD := hd 18 (by decide)
                      rw [e18]
                      have e19 : u 19 = .int .i64 (z : Int) := hd 19 (by decide)
                      rw [e19]
                      go_wp2
                      exact ⟨_, by simp only [putAll, fillL, hu2, e18, e19] <;> rfl, kept0 (Below.refl _ _), rfl⟩
                    · have e20 : u 20 = .pointer (some ⟨blD, offD + z, none⟩) := hd 20 (by decide)
                      rw [e20]
                      go_wp2
                      exact ⟨_, by simp only [putAll, fillL, hu2, e20] <;> rfl, kept0 (Below.refl _ _), rfl⟩
                    · have e17 : u 17 = .int .i64 (qN * (q0 + q1)) := hd 17 (by decide)
                      rw [e17]
                      have e21 : u 21 = .int .i64 qD := hd 21 (by decide)
                      rw [e21]
                      go_wp2
                      exact ⟨_, by simp only [putAll, fillL, hu2, e17, e21] <;> rfl, kept0 (Below.refl _ _), rfl⟩
                    · exact absurd rfl hi
                    · exact absurd rfl hi2
                    · simp at ho
                  · intro uu g w7 hbw hu2 hR hAp
                    have e22 : uu 22 = .int .i64 (qN * (q0 + q1) * qD) := hR 22 (by decide) (by decide) (by decide)
                    have e0 : uu 0 = .int .i64 sm := hR 0 (by decide) (by decide) (by decide)
                    replace hu2 : uu 24 = .int .i64 sm := hu2
                    have hB7 := hB.trans (hbw.mono (by omega))
                    clear hR hAp cN cO cO1 cD hbw hB hall0
                    simp only [putAll, fillL]
                    rw [hu2, e22, e0]
                    clear hu2 e22 e0
                    go_wp2
                    go_roundw
                    case rel => first | exact ⟨z + 1, by omega, by go_num, by rw [hst2.out], hB7⟩ | ((repeat apply Exists.intro); exact ⟨⟨z + 1, by omega, rfl, by rw [hst2.out], hB7⟩, rfl⟩)
                    case measure => simp [intOf]; omega
              · obtain rfl : z = 4 := by omega
                go_wp2
                go_roundw
                case rel => first | exact ⟨f1 + 1, by omega, by go_num, by rw [show 8 * a1 + 4 * (f1 + 1) = 8 * a1 + 4 * f1 + 4 by omega], hB⟩ | ((repeat apply Exists.intro); exact ⟨⟨f1 + 1, by omega, rfl, by rw [show 8 * a1 + 4 * (f1 + 1) = 8 * a1 + 4 * f1 + 4 by omega], hB⟩, rfl⟩)
                case measure => simp [intOf]; omega
          · obtain rfl : f1 = 2 := by omega
            go_wp2
            go_roundw
            case rel => first | exact ⟨a1 + 1, by omega, by go_num, by rw [show 8 * (a1 + 1) = 8 * a1 + 4 * 2 by omega], hB⟩ | ((repeat apply Exists.intro); exact ⟨⟨a1 + 1, by omega, rfl, by rw [show 8 * (a1 + 1) = 8 * a1 + 4 * 2 by omega], hB⟩, rfl⟩)
            case measure => simp [intOf]; omega
      · obtain rfl : a1 = 4 := by omega
        have hall := hA.trans (hB.mono (by omega))
        go_wp2
        go_ret
        exact ⟨by rw [hRes.out]; rfl, hall⟩

theorem c_l9Right (v : Value) (r : BoxD) (k i : Nat) (w : World) (h : BoxR w v r) (hc : chainB r = true) (hk : k < 16) (hi : i < 4) :
    Calls Try.prog 81 #[v, .int .i64 k, .int .i64 i] w fun e w' => e = .returned (.int .i64 (rightV r k i)) ∧ Below w.heap.size w w' := by
  have hi4 : i = 0 ∨ i = 1 ∨ i = 2 ∨ i = 3 := by omega
  rcases hi4 with rfl | rfl | rfl | rfl
  · exact c_l9Right0 v r k w h hc hk
  · exact c_l9Right1 v r k w h hc hk
  · exact c_l9Right2 v r k w h hc hk
  · exact c_l9Right3 v r k w h hc hk
end Go.Proofs.Ytjeaeninpmaoiaa
