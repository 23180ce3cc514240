/-
  The walk of NumOrder.
-/
import Derived.Test.YtdcjbodkcldpbaaDoorKeys
import Derived.Test.YtdcjbodkcldpbaaDoorWk
namespace Go.Proofs.YtdcjbodkcldpbaaDoor
open Go.RowKit
set_option maxHeartbeats 6400000 in
theorem order_walk (a b c : Nat) (W : World) (ha : a < 18446744073709551616) (hb : b < 18446744073709551616) (hc : c < 18446744073709551616) (hT : TzAt W) :
    Calls Tryd.prog 4 #[.float .f64 a, .float .f64 b, .float .f64 c] W fun e w' => e = .returned (.bool true) ∧ Below W.heap.size W w' := by
  have hne := cmp_ne_self a
  have HT := Lib.hid hT
  clear hT
  rcases Int.lt_trichotomy (key a) (key b) with h1 | h1 | h1 <;> rcases Int.lt_trichotomy (key b) (key c) with h2 | h2 | h2 <;> rcases Int.lt_trichotomy (key a) (key c) with h3 | h3 | h3 <;> try (exfalso; omega)
  all_goals
    obtain ⟨l1, hl1⟩ : ∃ l, lessB a b = l := ⟨_, rfl⟩
    obtain ⟨l2, hl2⟩ : ∃ l, lessB b a = l := ⟨_, rfl⟩
    obtain ⟨l3, hl3⟩ : ∃ l, lessB b c = l := ⟨_, rfl⟩
    obtain ⟨l4, hl4⟩ : ∃ l, lessB a c = l := ⟨_, rfl⟩
    obtain ⟨s1, hs1⟩ : ∃ s, sameB a b = s := ⟨_, rfl⟩
    obtain ⟨s2, hs2⟩ : ∃ s, sameB b c = s := ⟨_, rfl⟩
    obtain ⟨s3, hs3⟩ : ∃ s, sameB a c = s := ⟨_, rfl⟩
    have e1 := hl1
    have e2 := hl2
    have e3 := hl3
    have e4 := hl4
    have e5 := hs1
    have e6 := hs2
    have e7 := hs3
    first | rw [less_t (by omega)] at e1 | rw [less_f (by omega)] at e1
    first | rw [less_t (by omega)] at e2 | rw [less_f (by omega)] at e2
    first | rw [less_t (by omega)] at e3 | rw [less_f (by omega)] at e3
    first | rw [less_t (by omega)] at e4 | rw [less_f (by omega)] at e4
    first | rw [same_t (by omega)] at e5 | rw [same_f (by omega)] at e5
    first | rw [same_t (by omega)] at e6 | rw [same_f (by omega)] at e6
    first | rw [same_t (by omega)] at e7 | rw [same_f (by omega)] at e7
    subst e1 e2 e3 e4 e5 e6 e7
    have g1 := @gt_key a b
    have g2 := @lt_key a b
    have g3 := @not_nan_of_less a b
    rw [hl1] at g1 g2 g3
    try have g1 := g1 rfl
    try have g2 := g2 rfl
    try (have g3 := g3 rfl; rw [g3] at hne)
    clear h1 h2 h3
    go_enter Tryd.func4, Tryd.ntmps4
    go_wp2_with (first
      | (go_at_call 14; refine (Less_any _ _ _ (by assumption) (by assumption)).mono ?_; rintro e w1 ⟨rfl, rfl⟩)
      | (go_at_call 15; refine (Same_any _ _ _ (by assumption) (by assumption)).mono ?_; rintro e w1 ⟨rfl, rfl⟩)
      | (go_at_call 13; refine (wakes_any _ HT.out).mono ?_; rintro e w9 ⟨rfl, hb9⟩))
    all_goals
      go_ret
      exact ⟨rfl, hb9⟩
end Go.Proofs.YtdcjbodkcldpbaaDoor
