/-
  The walks of package math's small functions.
-/
import Derived.Test.YtkckncggiicciaaDoorNum
namespace Go.Proofs.YtkckncggiicciaaDoor
open Go.RowKit
/-- A float is stored. -/
theorem run_store_float (n : Nat) (a : Addr) (w : World) : (store a (.float .f64 n)).run Tryd.prog w = stored Tryd.prog w a (.float .f64 n) .plain := run_store Tryd.prog w a _ _ rfl
theorem call_bits (x : Nat) (w : World) : (callFunc 46 #[.float .f64 x]).run Tryd.prog w = .ok (.value (.int .u64 (x : Int))) w := by
  rw [run_callFunc_extern Tryd.func46 (by kernel_rfl) (by kernel_rfl) (by kernel_rfl) (e := Extern.MathFloatBits.float64bits) (by kernel_rfl)]
  rfl
theorem call_frombits (x : Int) (w : World) : (callFunc 69 #[.int .u64 x]).run Tryd.prog w = .ok (.value (.float .f64 x.toNat)) w := by
  rw [run_callFunc_extern Tryd.func69 (by kernel_rfl) (by kernel_rfl) (by kernel_rfl) (e := Extern.MathFloatBits.float64frombits) (by kernel_rfl)]
  rfl
set_option maxHeartbeats 400000 in
theorem IsNaN_any (x : Nat) (w : World) : Calls Tryd.prog 83 #[.float .f64 x] w fun e w' => e = .returned (.bool (isNan x)) ∧ w = w' := by
  go_enter Tryd.func83, Tryd.ntmps83
  go_wp2_with fail
  go_ret
  exact ⟨ret_bool (cmp_ne_self x), rfl⟩
theorem sg_wrap {x : Nat} (hx : x < 18446744073709551616) : sg x = decide (9223372036854775808 ≤ x) := by
  unfold sg
  by_cases h : 9223372036854775808 ≤ x
  · have : x / 9223372036854775808 = 1 := by omega
    simp [h, this]
  · have : x / 9223372036854775808 = 0 := by omega
    simp [h, this]
theorem and_not_top (x : Nat) : x &&& (18446744073709551615 - 9223372036854775808) = rg x := by
  have e : (18446744073709551615 - 9223372036854775808 : Nat) = 2 ^ 63 - 1 := rfl
  rw [e, Nat.and_two_pow_sub_one_eq_mod]
  rfl
end Go.Proofs.YtkckncggiicciaaDoor
