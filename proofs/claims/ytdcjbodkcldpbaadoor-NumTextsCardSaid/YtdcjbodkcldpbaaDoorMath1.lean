/-
  The walks of package math's small functions.
-/
import Derived.Test.YtdcjbodkcldpbaaDoorNum
namespace Go.Proofs.YtdcjbodkcldpbaaDoor
open Go.RowKit
/-- A float is stored. -/
theorem run_store_float (n : Nat) (a : Addr) (w : World) : (store a (.float .f64 n)).run Tryd.prog w = stored Tryd.prog w a (.float .f64 n) .plain := run_store Tryd.prog w a _ _ rfl
theorem call_bits (x : Nat) (w : World) : (callFunc 41 #[.float .f64 x]).run Tryd.prog w = .ok (.value (.int .u64 (x : Int))) w := by
  rw [run_callFunc_extern Tryd.func41 (by kernel_rfl) (by kernel_rfl) (by kernel_rfl) (e := Extern.MathFloatBits.float64bits) (by kernel_rfl)]
  rfl
theorem call_frombits (x : Int) (w : World) : (callFunc 31 #[.int .u64 x]).run Tryd.prog w = .ok (.value (.float .f64 x.toNat)) w := by
  rw [run_callFunc_extern Tryd.func31 (by kernel_rfl) (by kernel_rfl) (by kernel_rfl) (e := Extern.MathFloatBits.float64frombits) (by kernel_rfl)]
  rfl
set_option maxHeartbeats 400000 in
theorem IsNaN_any (x : Nat) (w : World) : Calls Tryd.prog 39 #[.float .f64 x] w fun e w' => e = .returned (.bool (isNan x)) ∧ w = w' := by
  go_enter Tryd.func39, Tryd.ntmps39
  go_wp2_with fail
  go_ret
  exact ⟨ret_bool (cmp_ne_self x), rfl⟩
theorem sg_wrap {x : Nat} (hx : x < 18446744073709551616) : sg x = decide (9223372036854775808 ≤ x) := by
  unfold sg
  by_cases h : 9223372036854775808 ≤ x
  · have : x / 9223372036854775808 = 1 := by omega
    simp [h, this]
  · have : x / 9223372036854775808 = 0 := by omega
    simp [h, this]
set_option maxHeartbeats 400000 in
theorem Signbit_any (x : Nat) (w : World) (hx : x < 18446744073709551616) : Calls Tryd.prog 40 #[.float .f64 x] w fun e w' => e = .returned (.bool (sg x)) ∧ w = w' := by
  have hb := call_bits x
  go_enter Tryd.func40, Tryd.ntmps40
  go_wp2_with fail
  go_ret
  refine ⟨ret_bool ?_, rfl⟩
  rw [sg_wrap hx]
  by_cases h : 9223372036854775808 ≤ x
  · have : wrap64 (x : Int) < 0 := by unfold wrap64; omega
    simp [h, this]
  · have : ¬ wrap64 (x : Int) < 0 := by unfold wrap64; omega
    simp [h, this]
theorem and_not_top (x : Nat) : x &&& (18446744073709551615 - 9223372036854775808) = rg x := by
  have e : (18446744073709551615 - 9223372036854775808 : Nat) = 2 ^ 63 - 1 := rfl
  rw [e, Nat.and_two_pow_sub_one_eq_mod]
  rfl
set_option maxHeartbeats 400000 in
theorem Abs_any (x : Nat) (w : World) (hx : x < 18446744073709551616) : Calls Tryd.prog 93 #[.float .f64 x] w fun e w' => e = .returned (.float .f64 (rg x)) ∧ w = w' := by
  have hb := call_bits x
  have hc := call_frombits
  have hand : bits .andNot .u64 (x : Int) 9223372036854775808 = (rg x : Int) := by
    rw [← and_not_top x]
    have := u64_andNot (x : Int) 9223372036854775808 (by omega) (by omega) (by omega) (by omega)
    simpa using this
  have Hand := Lib.hid hand
  clear hand
  go_enter Tryd.func93, Tryd.ntmps93
  go_wp2_with fail
  go_ret
  refine ⟨?_, rfl⟩
  show Ending.returned (Value.float .f64 (bits .andNot .u64 (x : Int) 9223372036854775808).toNat) = _
  rw [Hand.out, Int.toNat_natCast]
set_option maxHeartbeats 400000 in
theorem Inf_any (w : World) : Calls Tryd.prog 29 #[.int .i64 1] w fun e w' => e = .returned (.float .f64 9218868437227405312) ∧ w = w' := by
  have hc := call_frombits
  go_enter Tryd.func29, Tryd.ntmps29
  go_wp2_with fail
  go_ret
  exact ⟨rfl, rfl⟩
end Go.Proofs.YtdcjbodkcldpbaaDoor
