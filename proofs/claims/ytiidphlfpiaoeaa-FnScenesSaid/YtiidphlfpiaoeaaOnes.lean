/- The contract of math/bits.OnesCount at numbers of twelve bits; conditions: the number is less than 4096. -/
import Derived.Test.YtiidphlfpiaoeaaBits
namespace Go.Proofs.Ytiidphlfpiaoeaa
open Go.RowKit
def pcA (x : Int) : Int := IntKind.u64.wrap (bits BinOp.and IntKind.u64 (x / 2) 6148914691236517205 + bits BinOp.and IntKind.u64 x 6148914691236517205)
def pcB (a : Int) : Int := IntKind.u64.wrap (bits BinOp.and IntKind.u64 (a / 4) 3689348814741910323 + bits BinOp.and IntKind.u64 a 3689348814741910323)
def pcC (b : Int) : Int := bits BinOp.and IntKind.u64 (IntKind.u64.wrap (b / 16 + b)) 1085102592571150095
def pcD (c : Int) : Int := IntKind.u64.wrap (c + c / 256)
def pcE (c : Int) : Int := IntKind.u64.wrap (c + c / 65536)
def pcF (c : Int) : Int := IntKind.u64.wrap (c + c / 4294967296)
/-- what the library reckons -/
def pc (x : Int) : Int := bits BinOp.and IntKind.i64 (wrap64 (pcF (pcE (pcD (pcC (pcB (pcA x))))))) 127
theorem pc_grid : ∀ a : Nat, a < 64 → ∀ b : Nat, b < 64 → pc ((64 * a + b : Nat) : Int) = (ones 12 (64 * a + b) : Int) := by decide +kernel
theorem pc_eq (x : Nat) (hx : x < 4096) : pc (x : Int) = (ones 12 x : Int) := by
  have := pc_grid (x / 64) (by omega) (x % 64) (by omega)
  rwa [Nat.div_add_mod] at this
set_option maxHeartbeats 1000000 in
theorem c_OnesCount64 (x : Nat) (hx : x < 4096) (w : World) : Calls Try.prog 112 #[.int .u64 x] w fun e w' => e = .returned (.int .i64 (ones 12 x)) ∧ w = w' := by
  have hF := Lib.hid (pc_eq x hx)
  go_enter Try.func112, Try.ntmps112
  go_wp2
  go_ret
  refine ⟨?_, rfl⟩
  rw [← hF.out]
  rfl
theorem c_OnesCount (x : Nat) (hx : x < 4096) (w : World) : Calls Try.prog 106 #[.int .u64 x] w fun e w' => e = .returned (.int .i64 (ones 12 x)) ∧ w = w' := by
  go_enter Try.func106, Try.ntmps106
  go_wp2_with (go_at_call 112; refine (c_OnesCount64 _ hx _).mono ?_; rintro e w' ⟨rfl, rfl⟩)
  go_ret
  exact ⟨rfl, rfl⟩
theorem ones_more {n m k : Nat} (h : k < 2 ^ n) (hm : n ≤ m) : ones m k = ones n k := by
  induction m with
  | zero => obtain rfl : n = 0 := by omega
            rfl
  | succ m ih =>
    by_cases e : n = m + 1
    · rw [e]
    · have hle : k < 2 ^ m := Nat.lt_of_lt_of_le h (Nat.pow_le_pow_right (by decide) (by omega))
      simp only [ones]
      rw [ih (by omega), Nat.div_eq_of_lt hle]
      rfl
end Go.Proofs.Ytiidphlfpiaoeaa
