/-
  The walks of num.Clamp and the page's.
-/
import Derived.Test.YtdcjbodkcldpbaaDoorNumb
namespace Go.Proofs.YtdcjbodkcldpbaaDoor
open Go.RowKit
/-- Cut to a span. -/
def clampV (x lo hi : Nat) : Nat := if isNan x = true ∨ lessB x lo = true then canon lo else if lessB hi x = true then canon hi else x
theorem clampV_lt {x lo hi : Nat} (hx : x < 18446744073709551616) (hl : lo < 18446744073709551616) (hh : hi < 18446744073709551616) : clampV x lo hi < 18446744073709551616 := by
  unfold clampV
  split
  · exact canon_lt hl
  · split
    · exact canon_lt hh
    · exact hx
set_option maxHeartbeats 400000 in
theorem Clamp_any (x lo hi : Nat) (w : World) (hx : x < 18446744073709551616) (hlo : lo < 18446744073709551616) (hhi : hi < 18446744073709551616) : Calls Tryd.prog 16 #[.float .f64 x, .float .f64 lo, .float .f64 hi] w fun e w' => e = .returned (.float .f64 (clampV x lo hi)) ∧ w = w' := by
  have HL : Hid (∀ w, Calls Tryd.prog 14 #[.float .f64 x, .float .f64 lo] w fun e w' => e = .returned (.bool (lessB x lo)) ∧ w = w') := fun w => Less_any x lo w hx hlo
  have HM : Hid (∀ w, Calls Tryd.prog 14 #[.float .f64 hi, .float .f64 x] w fun e w' => e = .returned (.bool (lessB hi x)) ∧ w = w') := fun w => Less_any hi x w hhi hx
  unfold clampV
  cases na : isNan x
  case' false => cases hl : lessB x lo
  case' false.false => cases hm : lessB hi x
  all_goals
    try rw [hl] at HL
    try rw [hm] at HM
    simp only [Bool.false_eq_true, or_self, or_true, true_or, if_true, if_false]
    go_enter Tryd.func16, Tryd.ntmps16
    go_wp2_with (first | (go_at_call 39; refine (IsNaN_any _ _).mono ?_; rintro e w1 ⟨rfl, rfl⟩) | (go_at_call 20; refine (Canon_any _ _).mono ?_; rintro e w1 ⟨rfl, rfl⟩) | (go_at_call 14; (with_reducible refine (HL.out _).mono ?_); rintro e w1 ⟨rfl, rfl⟩) | (go_at_call 14; (with_reducible refine (HM.out _).mono ?_); rintro e w1 ⟨rfl, rfl⟩))
    go_ret
    exact ⟨rfl, rfl⟩
set_option maxHeartbeats 400000 in
theorem RefClamp_any (x lo hi : Nat) (w : World) (hx : x < 18446744073709551616) (hlo : lo < 18446744073709551616) (hhi : hi < 18446744073709551616) : Calls Tryd.prog 28 #[.float .f64 x, .float .f64 lo, .float .f64 hi] w fun e w' => e = .returned (.float .f64 (clampV x lo hi)) ∧ w = w' := by
  have HL : Hid (∀ w, Calls Tryd.prog 23 #[.float .f64 x, .float .f64 lo] w fun e w' => e = .returned (.bool (lessB x lo)) ∧ w = w') := fun w => RefLess_any x lo w hx hlo
  have HM : Hid (∀ w, Calls Tryd.prog 23 #[.float .f64 hi, .float .f64 x] w fun e w' => e = .returned (.bool (lessB hi x)) ∧ w = w') := fun w => RefLess_any hi x w hhi hx
  have h1 := cmp_ne_self x
  unfold clampV
  cases na : isNan x
  case' false => cases hl : lessB x lo
  case' false.false => cases hm : lessB hi x
  all_goals
    try rw [hl] at HL
    try rw [hm] at HM
    rw [na] at h1
    simp only [Bool.false_eq_true, or_self, or_true, true_or, if_true, if_false]
    go_enter Tryd.func28, Tryd.ntmps28
    go_wp2_with (first | (go_at_call 21; refine (RefCanon_any _ _).mono ?_; rintro e w1 ⟨rfl, rfl⟩) | (go_at_call 23; (with_reducible refine (HL.out _).mono ?_); rintro e w1 ⟨rfl, rfl⟩) | (go_at_call 23; (with_reducible refine (HM.out _).mono ?_); rintro e w1 ⟨rfl, rfl⟩))
    go_ret
    exact ⟨rfl, rfl⟩
end Go.Proofs.YtdcjbodkcldpbaaDoor
