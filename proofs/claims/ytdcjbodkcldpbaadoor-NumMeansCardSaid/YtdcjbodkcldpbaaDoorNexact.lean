/-
  The walk of NumExact.
-/
import Derived.Test.YtdcjbodkcldpbaaDoorKeys
import Derived.Test.YtdcjbodkcldpbaaDoorWk
namespace Go.Proofs.YtdcjbodkcldpbaaDoor
open Go.RowKit
set_option maxHeartbeats 400000 in
theorem bits_same (a : Nat) (w : World) : Calls Tryd.prog 17 #[.float .f64 a, .float .f64 a] w fun e w' => e = .returned (.bool true) ∧ w = w' := by
  have h1 := call_bits a
  go_enter Tryd.func17, Tryd.ntmps17
  go_wp2_with fail
  go_ret
  exact ⟨rfl, rfl⟩
set_option maxHeartbeats 6400000 in
theorem nexact_walk (a b x lo hi : Nat) (W : World) (ha : a < 18446744073709551616) (hb : b < 18446744073709551616) (hx : x < 18446744073709551616) (hlo : lo < 18446744073709551616) (hhi : hi < 18446744073709551616) (hT : TzAt W) :
    Calls Tryd.prog 7 #[.float .f64 a, .float .f64 b, .float .f64 x, .float .f64 lo, .float .f64 hi] W fun e w' => e = .returned (.bool true) ∧ Below W.heap.size W w' := by
  have HT := Lib.hid hT
  clear hT
  have HG : Hid (∀ w, Calls Tryd.prog 24 #[.float .f64 a, .float .f64 b] w (Qt w (.float .f64 (addV a b)))) := fun w => Add_any a b w
  have HH : Hid (∀ w, Calls Tryd.prog 25 #[.float .f64 a, .float .f64 b] w (Qt w (.float .f64 (addV a b)))) := fun w => RefAdd_any a b w
  unfold Qt at HG HH
  cases hl : lessB a b
  all_goals
    cases hs : sameB a b
    all_goals
      go_enter Tryd.func7, Tryd.ntmps7
      go_wp2_with (first
        | (go_at_call 20; refine (Canon_any _ _).mono ?_; rintro e w1 ⟨rfl, rfl⟩)
        | (go_at_call 21; refine (RefCanon_any _ _).mono ?_; rintro e w1 ⟨rfl, rfl⟩)
        | (go_at_call 17; refine (bits_same _ _).mono ?_; rintro e w1 ⟨rfl, rfl⟩)
        | (go_at_call 14; refine (Less_any _ _ _ (by assumption) (by assumption)).mono ?_; rintro e w1 ⟨rfl, rfl⟩)
        | (go_at_call 15; refine (Same_any _ _ _ (by assumption) (by assumption)).mono ?_; rintro e w1 ⟨rfl, rfl⟩)
        | (go_at_call 23; refine (RefLess_any _ _ _ (by assumption) (by assumption)).mono ?_; rintro e w1 ⟨rfl, rfl⟩)
        | (go_at_call 22; refine (RefSame_any _ _ _ (by assumption) (by assumption)).mono ?_; rintro e w1 ⟨rfl, rfl⟩)
        | (go_at_call 24; refine (HG.out _).mono ?_; rintro e w1 ⟨rfl, k8, rfl⟩)
        | (go_at_call 25; refine (HH.out _).mono ?_; rintro e w1 ⟨rfl, k9, rfl⟩)
        | (go_at_call 26; refine (Max_any _ _ _ (by assumption) (by assumption)).mono ?_; rintro e w1 ⟨rfl, rfl⟩)
        | (go_at_call 27; refine (RefMax_any _ _ _ (by assumption) (by assumption)).mono ?_; rintro e w1 ⟨rfl, rfl⟩)
        | (go_at_call 16; refine (Clamp_any _ _ _ _ (by assumption) (by assumption) (by assumption)).mono ?_; rintro e w1 ⟨rfl, rfl⟩)
        | (go_at_call 28; refine (RefClamp_any _ _ _ _ (by assumption) (by assumption) (by assumption)).mono ?_; rintro e w1 ⟨rfl, rfl⟩)
        | (go_at_call 13; refine (wakes_any _ (by exact HT.out)).mono ?_; rintro e w9 ⟨rfl, hb9⟩))
      go_ret
      first | exact ⟨rfl, hb9⟩ | exact ⟨rfl, (below_drewN (Below.refl _ _) _).trans hb9⟩
end Go.Proofs.YtdcjbodkcldpbaaDoor
