/-
  The walks of NumMax and NumExact.
-/
import Derived.Test.YtdcjbodkcldpbaaDoorKeys
import Derived.Test.YtdcjbodkcldpbaaDoorWk
namespace Go.Proofs.YtdcjbodkcldpbaaDoor
open Go.RowKit
set_option maxHeartbeats 6400000 in
theorem nmax_walk (a b c : Nat) (W : World) (ha : a < 18446744073709551616) (hb : b < 18446744073709551616) (hc : c < 18446744073709551616) (hT : TzAt W) :
    Calls Tryd.prog 8 #[.float .f64 a, .float .f64 b, .float .f64 c] W fun e w' => e = .returned (.bool true) ∧ Below W.heap.size W w' := by
  have HT := Lib.hid hT
  clear hT
  have k1 := key_max a b
  have k2 := key_max b a
  have k3 := key_max (maxV a b) c
  have k4 := key_max b c
  have k5 := key_max a (maxV b c)
  have k6 := key_clamp c a b
  have K1 := key_le a
  have K2 := key_le b
  have K3 := key_le c
  have l1 := maxV_lt ha hb
  have l2 := maxV_lt hb ha
  have l3 := maxV_lt hb hc
  have l4 := maxV_lt l1 hc
  have l5 := maxV_lt ha l3
  have l6 := clampV_lt hc ha hb
  have l7 := addV_lt a b
  have HA : Hid (∀ w, Calls Tryd.prog 26 #[.float .f64 a, .float .f64 b] w fun e w' => e = .returned (.float .f64 (maxV a b)) ∧ w = w') := fun w => Max_any a b w ha hb
  have HB : Hid (∀ w, Calls Tryd.prog 26 #[.float .f64 b, .float .f64 a] w fun e w' => e = .returned (.float .f64 (maxV b a)) ∧ w = w') := fun w => Max_any b a w hb ha
  have HC : Hid (∀ w, Calls Tryd.prog 26 #[.float .f64 (maxV a b), .float .f64 c] w fun e w' => e = .returned (.float .f64 (maxV (maxV a b) c)) ∧ w = w') := fun w => Max_any _ _ w l1 hc
  have HD : Hid (∀ w, Calls Tryd.prog 26 #[.float .f64 b, .float .f64 c] w fun e w' => e = .returned (.float .f64 (maxV b c)) ∧ w = w') := fun w => Max_any _ _ w hb hc
  have HE : Hid (∀ w, Calls Tryd.prog 26 #[.float .f64 a, .float .f64 (maxV b c)] w fun e w' => e = .returned (.float .f64 (maxV a (maxV b c))) ∧ w = w') := fun w => Max_any _ _ w ha l3
  have HF : Hid (∀ w, Calls Tryd.prog 16 #[.float .f64 c, .float .f64 a, .float .f64 b] w fun e w' => e = .returned (.float .f64 (clampV c a b)) ∧ w = w') := fun w => Clamp_any _ _ _ w hc ha hb
  have HG : Hid (∀ w, Calls Tryd.prog 24 #[.float .f64 a, .float .f64 b] w (Qt w (.float .f64 (addV a b)))) := fun w => Add_any a b w
  have HH : Hid (∀ w, Calls Tryd.prog 24 #[.float .f64 b, .float .f64 a] w (Qt w (.float .f64 (addV a b)))) := fun w => by rw [addV_comm]; exact Add_any b a w
  unfold Qt at HG HH
  obtain ⟨m1, e1⟩ : ∃ m, maxV b c = m := ⟨_, rfl⟩
  rw [e1] at k4 k5 l3 l5 HD HE
  obtain ⟨m2, e2⟩ : ∃ m, maxV a m1 = m := ⟨_, rfl⟩
  rw [e2] at k5 l5 HE
  obtain ⟨m3, e3⟩ : ∃ m, maxV a b = m := ⟨_, rfl⟩
  rw [e3] at k1 k3 l1 l4 HA HC
  obtain ⟨m4, e4⟩ : ∃ m, maxV m3 c = m := ⟨_, rfl⟩
  rw [e4] at k3 l4 HC
  obtain ⟨m5, e5⟩ : ∃ m, maxV b a = m := ⟨_, rfl⟩
  rw [e5] at k2 l2 HB
  obtain ⟨m6, e6⟩ : ∃ m, clampV c a b = m := ⟨_, rfl⟩
  rw [e6] at k6 l6 HF
  obtain ⟨m7, e7⟩ : ∃ m, addV a b = m := ⟨_, rfl⟩
  rw [e7] at l7 HG HH
  clear e1 e2 e3 e4 e5 e6 e7
  have t1 : sameB m3 m5 = true := same_t (by omega)
  have t2 : sameB m4 m2 = true := same_t (by omega)
  have t3 : sameB m7 m7 = true := same_t rfl
  have t4 : lessB m3 a = false := less_f (by omega)
  have t5 : lessB m3 b = false := less_f (by omega)
  have n1 := cmp_ne_self a
  have n2 := cmp_ne_self b
  have n3 := cmp_ne_self c
  have ht : ∀ {p q : Nat}, key p = key q ∨ key p ≠ key q := fun {p q} => Decidable.em _
  -- which one is the greater one
  rcases Decidable.em (key m3 = key a) with q1 | q1
  case' inl => have t6 : sameB m3 a = true := same_t q1
  case' inr =>
    have t6 : sameB m3 a = false := same_f q1
    have t7 : sameB m3 b = true := same_t (by omega)
  all_goals
    cases nb : lessB b a
    case' false =>
      have nb' : key a ≤ key b := by
        rcases Int.lt_or_le (key b) (key a) with h | h
        · rw [less_t h] at nb; cases nb
        · exact h
      cases na : isNan a
      case' false =>
        cases nbb : isNan b
        case' false =>
          have ka := key_lt_nan na
          have kb := key_lt_nan nbb
          have t8 : lessB m6 a = false := less_f (by split at k6 <;> (try split at k6) <;> omega)
          have t9 : lessB b m6 = false := less_f (by split at k6 <;> (try split at k6) <;> omega)
          cases nc : isNan c
          case' false =>
            have kc := key_lt_nan nc
            rcases Decidable.em (key c < key a) with q2 | q2
            case' inl => have t10 : lessB c a = true := less_t q2
            case' inr =>
              have t10 : lessB c a = false := less_f (by omega)
              rcases Decidable.em (key b < key c) with q3 | q3
              case' inl => have t11 : lessB b c = true := less_t q3
              case' inr =>
                have t11 : lessB b c = false := less_f (by omega)
                have t12 : sameB m6 c = true := same_t (by split at k6 <;> (try split at k6) <;> omega)
  all_goals
    try rw [na] at n1
    try rw [nbb] at n2
    try rw [nc] at n3
    clear k1 k2 k3 k4 k5 k6 K1 K2 K3 q1 ht
    try clear nb'
    try clear ka
    try clear kb
    try clear kc
    try clear q2
    try clear q3
    go_enter Tryd.func8, Tryd.ntmps8
    go_wp2_with (first
      | (go_at_call 26; (with_reducible refine (HA.out _).mono ?_); rintro e w1 ⟨rfl, rfl⟩)
      | (go_at_call 26; (with_reducible refine (HB.out _).mono ?_); rintro e w1 ⟨rfl, rfl⟩)
      | (go_at_call 26; (with_reducible refine (HC.out _).mono ?_); rintro e w1 ⟨rfl, rfl⟩)
      | (go_at_call 26; (with_reducible refine (HD.out _).mono ?_); rintro e w1 ⟨rfl, rfl⟩)
      | (go_at_call 26; (with_reducible refine (HE.out _).mono ?_); rintro e w1 ⟨rfl, rfl⟩)
      | (go_at_call 16; (with_reducible refine (HF.out _).mono ?_); rintro e w1 ⟨rfl, rfl⟩)
      | (go_at_call 24; (with_reducible refine (HG.out _).mono ?_); rintro e w1 ⟨rfl, k8, rfl⟩)
      | (go_at_call 24; (with_reducible refine (HH.out _).mono ?_); rintro e w1 ⟨rfl, k9, rfl⟩)
      | (go_at_call 14; refine (Less_any _ _ _ (by assumption) (by assumption)).mono ?_; rintro e w1 ⟨rfl, rfl⟩)
      | (go_at_call 15; refine (Same_any _ _ _ (by assumption) (by assumption)).mono ?_; rintro e w1 ⟨rfl, rfl⟩)
      | (go_at_call 13; refine (wakes_any _ (by exact HT.out)).mono ?_; rintro e w9 ⟨rfl, hb9⟩))
    all_goals
      go_ret
      first | exact ⟨rfl, hb9⟩ | exact ⟨rfl, (below_drewN (Below.refl _ _) _).trans hb9⟩
end Go.Proofs.YtdcjbodkcldpbaaDoor
