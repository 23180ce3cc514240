/-
  The walks of NumTicks and NumGrows.
-/
import Derived.Test.YtdcjbodkcldpbaaDoorKeys
import Derived.Test.YtdcjbodkcldpbaaDoorWk
namespace Go.Proofs.YtdcjbodkcldpbaaDoor
open Go.RowKit
set_option maxHeartbeats 6400000 in
theorem nticks_walk (x : Nat) (lo hi : Int) (W : World) (hx : x < 18446744073709551616) (hT : TzAt W) :
    Calls Tryd.prog 3 #[.float .f64 x, .int .i64 lo, .int .i64 hi] W fun e w' => e = .returned (.bool true) ∧ Below W.heap.size W w' := by
  have HT := Lib.hid hT
  clear hT
  have H1 : Hid (∀ w, Calls Tryd.prog 11 #[.float .f64 x, .int .i64 lo, .int .i64 hi] w (Qt w (.int .i64 (tickV x lo hi)))) := fun w => Ticks_any x lo hi w hx
  have H2 : Hid (∀ w, Calls Tryd.prog 12 #[.float .f64 x, .int .i64 lo, .int .i64 hi] w fun e w' => e = .returned (.int .i64 (tickV x lo hi)) ∧ w = w') := fun w => RefTicks_any x lo hi w hx
  unfold Qt at H1
  have hin := tick_in x (lo := lo) (hi := hi)
  obtain ⟨n, hn⟩ : ∃ n, tickV x lo hi = n := ⟨_, rfl⟩
  rw [hn] at H1 H2 hin
  clear hn
  by_cases h : hi < lo
  · clear hin
    go_enter Tryd.func3, Tryd.ntmps3
    go_wp2_with (first
      | (go_at_call 11; refine (H1.out _).mono ?_; rintro e w1 ⟨rfl, k1, rfl⟩)
      | (go_at_call 12; refine (H2.out _).mono ?_; rintro e w1 ⟨rfl, rfl⟩)
      | (go_at_call 13; refine (wakes_any _ (by exact HT.out)).mono ?_; rintro e w9 ⟨rfl, hb9⟩))
    go_ret
    first | exact ⟨rfl, hb9⟩ | exact ⟨rfl, (below_drewN (Below.refl _ _) _).trans hb9⟩
  · obtain ⟨h1, h2⟩ := hin (by omega)
    go_enter Tryd.func3, Tryd.ntmps3
    go_wp2_with (first
      | (go_at_call 11; refine (H1.out _).mono ?_; rintro e w1 ⟨rfl, k1, rfl⟩)
      | (go_at_call 12; refine (H2.out _).mono ?_; rintro e w1 ⟨rfl, rfl⟩)
      | (go_at_call 13; refine (wakes_any _ (by exact HT.out)).mono ?_; rintro e w9 ⟨rfl, hb9⟩))
    go_ret
    first | exact ⟨rfl, hb9⟩ | exact ⟨rfl, (below_drewN (Below.refl _ _) _).trans hb9⟩
set_option maxHeartbeats 6400000 in
theorem ngrows_walk (x y a b : Nat) (lo hi : Int) (W : World) (hx : x < 18446744073709551616) (hy : y < 18446744073709551616) (ha : a < 18446744073709551616) (hb : b < 18446744073709551616) (hT : TzAt W) :
    Calls Tryd.prog 5 #[.float .f64 x, .float .f64 y, .float .f64 a, .float .f64 b, .int .i64 lo, .int .i64 hi] W fun e w' => e = .returned (.bool true) ∧ Below W.heap.size W w' := by
  have HT := Lib.hid hT
  clear hT
  have n1 := cmp_ne_self y
  have n2 := cmp_ne_self a
  have n3 := cmp_ne_self b
  have H1 : Hid (∀ w, Calls Tryd.prog 11 #[.float .f64 x, .int .i64 lo, .int .i64 hi] w (Qt w (.int .i64 (tickV x lo hi)))) := fun w => Ticks_any x lo hi w hx
  have H2 : Hid (∀ w, Calls Tryd.prog 11 #[.float .f64 y, .int .i64 lo, .int .i64 hi] w (Qt w (.int .i64 (tickV y lo hi)))) := fun w => Ticks_any y lo hi w hy
  have H3 : Hid (∀ w, Calls Tryd.prog 16 #[.float .f64 x, .float .f64 a, .float .f64 b] w fun e w' => e = .returned (.float .f64 (clampV x a b)) ∧ w = w') := fun w => Clamp_any x a b w hx ha hb
  have H4 : Hid (∀ w, Calls Tryd.prog 16 #[.float .f64 y, .float .f64 a, .float .f64 b] w fun e w' => e = .returned (.float .f64 (clampV y a b)) ∧ w = w') := fun w => Clamp_any y a b w hy ha hb
  have l3 := clampV_lt hx ha hb
  have l4 := clampV_lt hy ha hb
  unfold Qt at H1 H2
  have k3 := key_clamp x a b
  have k4 := key_clamp y a b
  obtain ⟨u, hu⟩ : ∃ n, tickV x lo hi = n := ⟨_, rfl⟩
  obtain ⟨v, hv⟩ : ∃ n, tickV y lo hi = n := ⟨_, rfl⟩
  obtain ⟨c, hc⟩ : ∃ n, clampV x a b = n := ⟨_, rfl⟩
  obtain ⟨d, hd⟩ : ∃ n, clampV y a b = n := ⟨_, rfl⟩
  rw [hu] at H1
  rw [hv] at H2
  rw [hc] at H3 l3 k3
  rw [hd] at H4 l4 k4
  cases f1 : lessB y x
  case' false =>
    cases f2 : isNan y
    case' false =>
      cases f3 : lessB b a
      case' false =>
        cases f4 : isNan a
        case' false =>
          cases f5 : isNan b
          case' false =>
            have hxy : key x ≤ key y := by
              rcases Int.lt_or_le (key y) (key x) with h | h
              · rw [less_t h] at f1; cases f1
              · exact h
            have hab : key a ≤ key b := by
              rcases Int.lt_or_le (key b) (key a) with h | h
              · rw [less_t h] at f3; cases f3
              · exact h
            have ky := key_lt_nan f2
            have hux : isNan x = false := not_nan_of_key (by omega)
            have huv : u ≤ v := by
              rw [← hu, ← hv]
              exact tick_mono hux f2 (rk_of_key hux f2 hxy)
            have t1 : lessB d c = false := less_f (by split at k3 <;> (try split at k3) <;> split at k4 <;> (try split at k4) <;> omega)
  all_goals
    try rw [f2] at n1
    try rw [f4] at n2
    try rw [f5] at n3
    clear k3 k4 hu hv hc hd
    try clear hxy
    try clear hab
    try clear ky
    go_enter Tryd.func5, Tryd.ntmps5
    go_wp2_with (first
      | (go_at_call 11; (with_reducible refine (H1.out _).mono ?_); rintro e w1 ⟨rfl, k1, rfl⟩)
      | (go_at_call 11; (with_reducible refine (H2.out _).mono ?_); rintro e w1 ⟨rfl, k2, rfl⟩)
      | (go_at_call 16; (with_reducible refine (H3.out _).mono ?_); rintro e w1 ⟨rfl, rfl⟩)
      | (go_at_call 16; (with_reducible refine (H4.out _).mono ?_); rintro e w1 ⟨rfl, rfl⟩)
      | (go_at_call 14; refine (Less_any _ _ _ (by assumption) (by assumption)).mono ?_; rintro e w1 ⟨rfl, rfl⟩)
      | (go_at_call 13; refine (wakes_any _ (by exact HT.out)).mono ?_; rintro e w9 ⟨rfl, hb9⟩))
    all_goals
      go_ret
      first | exact ⟨rfl, hb9⟩ | exact ⟨rfl, (below_drewN (Below.refl _ _) _).trans hb9⟩ | exact ⟨rfl, Below.refl _ _⟩
end Go.Proofs.YtdcjbodkcldpbaaDoor
