/-
  The walks of num's floats, and of the page's: the one NaN, the order, sums, the greater one, spans.
-/
import Derived.Test.YtkckncggiicciaaDoorMath1
import Derived.Test.YtkckncggiicciaaDoorFsub
import Derived.Laws.BitsAllLaws
import Derived.Deep.RegionHeld3
import Derived.BigQuiet
import Derived.Deep.QuietTactic
import Derived.Laws.FloatArith
namespace Go.Proofs.YtkckncggiicciaaDoor
open Go.RowKit
set_option maxHeartbeats 400000 in
theorem numnan_any (w : World) : Calls Tryd.prog 59 #[] w fun e w' => e = .returned (.float .f64 9221120237041090561) ∧ w = w' := by
  have hc := call_frombits
  go_enter Tryd.func59, Tryd.ntmps59
  go_wp2_with fail
  go_ret
  exact ⟨rfl, rfl⟩
set_option maxHeartbeats 400000 in
theorem Canon_any (x : Nat) (w : World) : Calls Tryd.prog 60 #[.float .f64 x] w fun e w' => e = .returned (.float .f64 (canon x)) ∧ w = w' := by
  unfold canon
  cases h : isNan x
  all_goals
    go_enter Tryd.func60, Tryd.ntmps60
    go_wp2_with (first | (go_at_call 83; refine (IsNaN_any _ _).mono ?_; rintro e w1 ⟨rfl, rfl⟩) | (go_at_call 59; refine (numnan_any _).mono ?_; rintro e w1 ⟨rfl, rfl⟩))
    go_ret
    exact ⟨rfl, rfl⟩
set_option maxHeartbeats 400000 in
theorem RefNaN_any (w : World) : Calls Tryd.prog 44 #[] w fun e w' => e = .returned (.float .f64 9221120237041090561) ∧ w = w' := by
  have hc := call_frombits
  go_enter Tryd.func44, Tryd.ntmps44
  go_wp2_with fail
  go_ret
  exact ⟨rfl, rfl⟩
theorem nan_nan : isNan 9221120237041090561 = true := by decide
set_option maxHeartbeats 400000 in
theorem RefCanon_any (x : Nat) (w : World) : Calls Tryd.prog 70 #[.float .f64 x] w fun e w' => e = .returned (.float .f64 (canon x)) ∧ w = w' := by
  have hne := cmp_ne_self x
  unfold canon
  cases h : isNan x
  all_goals
    rw [h] at hne
    clear h
    go_enter Tryd.func70, Tryd.ntmps70
    go_wp2_with (go_at_call 44; refine (RefNaN_any _).mono ?_; rintro e w1 ⟨rfl, rfl⟩)
    go_ret
    exact ⟨rfl, rfl⟩
theorem not_u64 (c : Nat) (h : c < 18446744073709551616) : bits .xor .u64 IntKind.u64.max (c : Int) = 18446744073709551615 - (c : Int) := by
  have h1 : BitVec.ofInt 64 IntKind.u64.max = BitVec.allOnes 64 := by decide
  have key : (BitVec.ofInt 64 IntKind.u64.max ^^^ BitVec.ofInt 64 (c : Int)).toNat = 18446744073709551615 - c := by
    rw [h1, BitVec.xor_comm, BitVec.xor_allOnes, BitVec.toNat_not, BitVec.toNat_ofInt]
    have e : ((c : Int) % ((2 ^ 64 : Nat) : Int)).toNat = c := by omega
    rw [e]
  show IntKind.u64.wrap ((BitVec.ofInt 64 IntKind.u64.max ^^^ BitVec.ofInt 64 (c : Int)).toNat : Nat) = _
  rw [key]
  unfold IntKind.wrap
  simp [IntKind.signed, IntKind.bits]
  omega
theorem or_top (c : Nat) (h : c < 9223372036854775808) : bits .or .u64 (c : Int) 9223372036854775808 = (c : Int) + 9223372036854775808 := by
  have := u64_or (c : Int) 9223372036854775808 (by omega) (by omega) (by omega) (by omega)
  rw [this]
  have e : c ||| 9223372036854775808 = c + 9223372036854775808 := by
    have := Nat.two_pow_add_eq_or_of_lt (i := 63) (b := c) h 1
    rw [Nat.or_comm]
    have e2 : (2 : Nat) ^ 63 * 1 = 9223372036854775808 := rfl
    rw [e2] at this
    omega
  simp [e]
set_option maxHeartbeats 400000 in
theorem rank_any (x : Nat) (w : World) (hx : x < 18446744073709551616) : Calls Tryd.prog 134 #[.float .f64 x] w fun e w' => e = .returned (.int .u64 (key x + 9223372036854775808)) ∧ w = w' := by
  have hc := canon_key hx
  have hl := canon_lt hx
  have hk := key_le x
  have hb := call_bits (canon x)
  obtain ⟨c, hcc⟩ : ∃ c, canon x = c := ⟨_, rfl⟩
  have hC : ∀ w, Calls Tryd.prog 70 #[.float .f64 x] w fun e w' => e = .returned (.float .f64 c) ∧ w = w' := by rw [← hcc]; exact fun w => RefCanon_any x w
  rw [hcc] at hc hl hb
  have HC := Lib.hid hC
  have Hc := Lib.hid hc
  clear hC hcc hc
  by_cases h : 9223372036854775808 ≤ c
  · have hd : ((c : Int) / 9223372036854775808 == 1) = true := by simp; omega
    go_enter Tryd.func134, Tryd.ntmps134
    go_wp2_with (refine (HC.out _).mono ?_; rintro e w1 ⟨rfl, rfl⟩)
    go_ret
    refine ⟨ret_int ?_, rfl⟩
    have := Hc.out
    rw [not_u64 c hl]
    split at this <;> omega
  · have hd : ((c : Int) / 9223372036854775808 == 1) = false := by simp; omega
    go_enter Tryd.func134, Tryd.ntmps134
    go_wp2_with (refine (HC.out _).mono ?_; rintro e w1 ⟨rfl, rfl⟩)
    go_ret
    refine ⟨ret_int ?_, rfl⟩
    have := Hc.out
    rw [or_top c (by omega)]
    split at this <;> omega
set_option maxHeartbeats 400000 in
theorem RefLess_any (a b : Nat) (w : World) (ha : a < 18446744073709551616) (hb : b < 18446744073709551616) : Calls Tryd.prog 131 #[.float .f64 a, .float .f64 b] w fun e w' => e = .returned (.bool (lessB a b)) ∧ w = w' := by
  go_enter Tryd.func131, Tryd.ntmps131
  go_wp2_with (refine (rank_any _ _ (by assumption)).mono ?_; rintro e w1 ⟨rfl, rfl⟩)
  go_ret
  refine ⟨ret_bool ?_, rfl⟩
  rfl
theorem fb_add (x y : Nat) : floatBits .add .f64 x y = Ieee.double.add x y := rfl
theorem fb_quo (x y : Nat) : floatBits .quo .f64 x y = Ieee.double.div x y := rfl
set_option maxHeartbeats 400000 in
theorem Same_any (a b : Nat) (w : World) (ha : a < 18446744073709551616) (hb : b < 18446744073709551616) : Calls Tryd.prog 81 #[.float .f64 a, .float .f64 b] w fun e w' => e = .returned (.bool (sameB a b)) ∧ w = w' := by
  have hs := same_canon ha hb
  have h1 := call_bits (canon a)
  have h2 := call_bits (canon b)
  obtain ⟨c, hc⟩ : ∃ c, canon a = c := ⟨_, rfl⟩
  obtain ⟨d, hd⟩ : ∃ d, canon b = d := ⟨_, rfl⟩
  have HC : Hid (∀ w, Calls Tryd.prog 60 #[.float .f64 a] w fun e w' => e = .returned (.float .f64 c) ∧ w = w') := by rw [← hc]; exact fun w => Canon_any a w
  have HD : Hid (∀ w, Calls Tryd.prog 60 #[.float .f64 b] w fun e w' => e = .returned (.float .f64 d) ∧ w = w') := by rw [← hd]; exact fun w => Canon_any b w
  rw [hc] at h1 hs
  rw [hd] at h2 hs
  rw [hs]
  clear hs hc hd
  go_enter Tryd.func81, Tryd.ntmps81
  go_wp2_with (first | ((with_reducible refine (HC.out _).mono ?_); rintro e w1 ⟨rfl, rfl⟩) | ((with_reducible refine (HD.out _).mono ?_); rintro e w1 ⟨rfl, rfl⟩))
  go_ret
  refine ⟨ret_bool ?_, rfl⟩
  rw [Bool.eq_iff_iff]
  simp
  try omega
/-- A sum, of any NaN the NaN. -/
def addV (a b : Nat) : Nat := match Ieee.double.add a b with
  | none => 9221120237041090561
  | some r => r
theorem addV_lt (a b : Nat) : addV a b < 18446744073709551616 := by
  unfold addV
  cases h : Ieee.double.add a b with
  | none => simp
  | some r => exact (add_ok h).2
theorem addV_comm (a b : Nat) : addV a b = addV b a := by unfold addV; rw [add_comm]
theorem canon_num {x : Nat} (h : isNan x = false) : canon x = x := by unfold canon; rw [h]; rfl
theorem canon_nan {x : Nat} (h : isNan x = true) : canon x = 9221120237041090561 := by unfold canon; rw [h]; rfl
set_option maxHeartbeats 400000 in
theorem RefAdd_any (a b : Nat) (w : World) : Calls Tryd.prog 116 #[.float .f64 a, .float .f64 b] w (Qt w (.float .f64 (addV a b))) := by
  unfold addV
  cases h : Ieee.double.add a b with
  | none =>
    have q := fun w => run_float_nan (P := Tryd.prog) w .add 35 a b (by simp) h
    have HC : Hid (∀ w w', Calls Tryd.prog 70 #[.float .f64 (nanOf w' a b)] w fun e w' => e = .returned (.float .f64 9221120237041090561) ∧ w = w') := fun w w' => by
      have := RefCanon_any (nanOf w' a b) w
      rw [canon_nan (nanOf_nan w' a b).1] at this
      exact this
    clear h
    go_enter Tryd.func116, Tryd.ntmps116
    go_wp2_with (refine (HC.out _ _).mono ?_; rintro e w1 ⟨rfl, rfl⟩)
    go_ret
    exact ⟨rfl, 1, rfl⟩
  | some r =>
    have q := fun w => run_float_arith (P := Tryd.prog) w .add 35 .f64 a b r h
    have HC : Hid (∀ w, Calls Tryd.prog 70 #[.float .f64 r] w fun e w' => e = .returned (.float .f64 r) ∧ w = w') := fun w => by
      have := RefCanon_any r w
      rw [canon_num (add_ok h).1] at this
      exact this
    clear h
    go_enter Tryd.func116, Tryd.ntmps116
    go_wp2_with (refine (HC.out _).mono ?_; rintro e w1 ⟨rfl, rfl⟩)
    go_ret
    exact ⟨rfl, 0, rfl⟩
/-- The one that stands behind; the NaN, if one is. -/
def maxV (a b : Nat) : Nat := if isNan a = true ∨ isNan b = true then 9221120237041090561 else if lessB a b = true then b else a
theorem maxV_lt {a b : Nat} (ha : a < 18446744073709551616) (hb : b < 18446744073709551616) : maxV a b < 18446744073709551616 := by
  unfold maxV
  split
  · omega
  · split <;> assumption
set_option maxHeartbeats 400000 in
theorem RefMax_any (a b : Nat) (w : World) (ha : a < 18446744073709551616) (hb : b < 18446744073709551616) : Calls Tryd.prog 117 #[.float .f64 a, .float .f64 b] w fun e w' => e = .returned (.float .f64 (maxV a b)) ∧ w = w' := by
  have HL : Hid (∀ w, Calls Tryd.prog 131 #[.float .f64 a, .float .f64 b] w fun e w' => e = .returned (.bool (lessB a b)) ∧ w = w') := fun w => RefLess_any a b w ha hb
  have h1 := cmp_ne_self a
  have h2 := cmp_ne_self b
  unfold maxV
  cases na : isNan a
  case' false => cases nb : isNan b
  case' false.false => cases hl : lessB a b
  all_goals
    try rw [hl] at HL
    rw [na] at h1
    try rw [nb] at h2
    simp only [Bool.false_eq_true, or_self, or_true, true_or, if_true, if_false]
    go_enter Tryd.func117, Tryd.ntmps117
    go_wp2_with (first | (go_at_call 44; refine (RefNaN_any _).mono ?_; rintro e w1 ⟨rfl, rfl⟩) | (go_at_call 131; refine (HL.out _).mono ?_; rintro e w1 ⟨rfl, rfl⟩))
    go_ret
    exact ⟨rfl, rfl⟩
end Go.Proofs.YtkckncggiicciaaDoor
