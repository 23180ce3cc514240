/-
  The walks of the page's floats and estimates.
-/
import Derived.Test.YtebfaghgcecacaaWorst
import Derived.Laws.BitsAllLaws
namespace Go.Proofs.Ytebfaghgcecacaa
open Go.RowKit
set_option maxHeartbeats 400000 in
theorem RefCanon_any (x : Nat) (w : World) : Calls Try.prog 61 #[.float .f64 x] w fun e w' => e = .returned (.float .f64 (canon x)) ∧ w = w' := by
  have hne := cmp_ne_self x
  unfold canon
  cases h : isNan x
  all_goals
    rw [h] at hne
    clear h
    go_enter Try.func61, Try.ntmps61
    go_wp2_with (go_at_call 42; refine (RefNaN_any _).mono ?_; rintro e w1 ⟨rfl, rfl⟩)
    go_ret
    exact ⟨rfl, rfl⟩
theorem not_u64 (c : Nat) (h : c < 18446744073709551616) : bits .xor .u64 IntKind.u64.max (c : Int) = 18446744073709551615 - (c : Int) := by
  have h1 : BitVec.ofInt 64 IntKind.u64.max = BitVec.allOnes 64 := by decide
  have key : (BitVec.ofInt 64 IntKind.u64.max ^^^ BitVec.ofInt 64 (c : Int)).toNat = 18446744073709551615 - c := by
    rw [h1, BitVec.xor_comm, BitVec.xor_allOnes, BitVec.toNat_not, BitVec.toNat_ofInt]
    have e : ((c : Int) % ((2 ^ 64 : Nat) : Int)).toNat = c := by omega
    rw [e]
  show IntKind.u64.wrap ((BitVec.ofInt 64 IntKind.u64.max ^^^ BitVec.ofInt 64 (c : Int)).toNat : Nat) = _
  rw [key]
  unfold IntKind.wrap
  simp [IntKind.signed, IntKind.bits]
  omega
theorem or_top (c : Nat) (h : c < 9223372036854775808) : bits .or .u64 (c : Int) 9223372036854775808 = (c : Int) + 9223372036854775808 := by
  have := u64_or (c : Int) 9223372036854775808 (by omega) (by omega) (by omega) (by omega)
  rw [this]
  have e : c ||| 9223372036854775808 = c + 9223372036854775808 := by
    have := Nat.two_pow_add_eq_or_of_lt (i := 63) (b := c) h 1
    rw [Nat.or_comm]
    have e2 : (2 : Nat) ^ 63 * 1 = 9223372036854775808 := rfl
    rw [e2] at this
    omega
  simp [e]
set_option maxHeartbeats 400000 in
theorem rank_any (x : Nat) (w : World) (hx : x < 18446744073709551616) : Calls Try.prog 41 #[.float .f64 x] w fun e w' => e = .returned (.int .u64 (key x + 9223372036854775808)) ∧ w = w' := by
  have hc := canon_key hx
  have hl := canon_lt hx
  have hk := key_le x
  have hb := call_bits (canon x)
  obtain ⟨c, hcc⟩ : ∃ c, canon x = c := ⟨_, rfl⟩
  have hC : ∀ w, Calls Try.prog 61 #[.float .f64 x] w fun e w' => e = .returned (.float .f64 c) ∧ w = w' := by rw [← hcc]; exact fun w => RefCanon_any x w
  rw [hcc] at hc hl hb
  have HC := Lib.hid hC
  have Hc := Lib.hid hc
  clear hC hcc hc
  by_cases h : 9223372036854775808 ≤ c
  · have hd : ((c : Int) / 9223372036854775808 == 1) = true := by simp; omega
    go_enter Try.func41, Try.ntmps41
    go_wp2_with (refine (HC.out _).mono ?_; rintro e w1 ⟨rfl, rfl⟩)
    go_ret
    refine ⟨ret_int ?_, rfl⟩
    have := Hc.out
    rw [not_u64 c hl]
    split at this <;> omega
  · have hd : ((c : Int) / 9223372036854775808 == 1) = false := by simp; omega
    go_enter Try.func41, Try.ntmps41
    go_wp2_with (refine (HC.out _).mono ?_; rintro e w1 ⟨rfl, rfl⟩)
    go_ret
    refine ⟨ret_int ?_, rfl⟩
    have := Hc.out
    rw [or_top c (by omega)]
    split at this <;> omega
set_option maxHeartbeats 400000 in
theorem RefLess_any (a b : Nat) (w : World) (ha : a < 18446744073709551616) (hb : b < 18446744073709551616) : Calls Try.prog 18 #[.float .f64 a, .float .f64 b] w fun e w' => e = .returned (.bool (lessB a b)) ∧ w = w' := by
  go_enter Try.func18, Try.ntmps18
  go_wp2_with (refine (rank_any _ _ (by assumption)).mono ?_; rintro e w1 ⟨rfl, rfl⟩)
  go_ret
  refine ⟨ret_bool ?_, rfl⟩
  rfl
set_option maxHeartbeats 400000 in
theorem plus_any (x : Nat) (w : World) (hx : x < 18446744073709551616) : Calls Try.prog 43 #[.float .f64 x] w fun e w' => e = .returned (.bool (rightB x)) ∧ w = w' := by
  have hg := cmp_ge x 0
  rw [show isNan 0 = false from rfl, Bool.not_false, Bool.and_true] at hg
  have hr := right_eq x
  rw [rk_zero] at hg
  cases h : (!isNan x && decide (0 ≤ rk x))
  · rw [h] at hg hr
    rw [hr]
    clear hr h
    go_enter Try.func43, Try.ntmps43
    go_wp2_with fail
    go_ret
    exact ⟨rfl, rfl⟩
  · rw [h] at hg hr
    rw [hr]
    clear hr h
    have hb := call_bits x
    go_enter Try.func43, Try.ntmps43
    go_wp2_with fail
    go_ret
    refine ⟨ret_bool ?_, rfl⟩
    rw [sg_wrap hx, Bool.true_and, Bool.eq_iff_iff]
    simp
    omega
end Go.Proofs.Ytebfaghgcecacaa
