/-
  Values: the page's walks: right, ahead, the same.
-/
import Derived.Test.YtkckncggiicciaaDoorVadd
namespace Go.Proofs.YtkckncggiicciaaDoor
open Go.RowKit
set_option maxRecDepth 100000
set_option maxHeartbeats 400000 in
theorem Rnought_any (x : Nat) (w : World) : Calls Tryd.prog 51 #[.float .f64 x] w fun e w' => e = .returned (.bool (x == 0)) ∧ w = w' := by
  have h1 := call_bits x
  go_enter Tryd.func51, Tryd.ntmps51
  go_wp2_with fail
  go_ret
  refine ⟨ret_bool ?_, rfl⟩
  rw [Bool.eq_iff_iff]
  simp
  try omega
set_option maxHeartbeats 1600000 in
theorem keepFloat_any (a b : Nat) (w : World) (ha : a < 18446744073709551616) (hb : b < 18446744073709551616) : Calls Tryd.prog 20 #[.float .f64 a, .float .f64 b] w fun e w' => e = .returned (.bool (sameB a b)) ∧ w = w' := by
  have h1 := call_bits a
  have h2 := call_bits b
  have e1 := cmp_ne_self a
  have e2 := cmp_ne_self b
  have hs := same_canon ha hb
  unfold canon at hs
  cases na : isNan a
  all_goals cases nb : isNan b
  all_goals
    rw [na] at e1 hs
    rw [nb] at e2 hs
    simp only [Bool.false_eq_true, if_false, if_true] at hs
    have HS := Lib.hid hs
    have Na := Lib.hid na
    have Nb := Lib.hid nb
    clear hs na nb
    go_enter Tryd.func20, Tryd.ntmps20
    go_wp2_with fail
    go_ret
    refine ⟨ret_bool ?_, rfl⟩
    rw [HS.out, Bool.eq_iff_iff]
    have e1 := Na.out
    have e2 := Nb.out
    simp
    first
      | done
      | omega
      | (constructor
         · intro e
           have e' : a = b := by omega
           rw [e', e2] at e1
           cases e1
         · intro e
           first
             | (rw [e] at e1; exact absurd e1 (by decide))
             | (rw [← e] at e2; exact absurd e2 (by decide)))
set_option maxHeartbeats 1600000 in
theorem keepVa_any (a b : Va) (w : World) (ha : a.x < 18446744073709551616) (hb : b.x < 18446744073709551616) :
    Calls Tryd.prog 28 #[a.v, b.v] w fun e w' => e = .returned (.bool (sameVa a b)) ∧ Below w.heap.size w w' := by
  obtain ⟨k1, x1, s1⟩ := a
  obtain ⟨k2, x2, s2⟩ := b
  unfold sameVa Va.v eqS
  dsimp only at ha hb ⊢
  rcases Decidable.em (k1 = k2) with rfl | hk
  · cases hs : sameB x1 x2
    all_goals
      go_enter Tryd.func28, Tryd.ntmps28
      go_wp2_with (refine (keepFloat_any _ _ _ ha hb).mono ?_; rintro e w1 ⟨rfl, rfl⟩)
      go_ret
      exact ⟨ret_bool (by simp), two_below _ _ _⟩
  · have hk' : (k1 == k2) = false := by simpa using hk
    rw [hk', Bool.false_and]
    go_enter Tryd.func28, Tryd.ntmps28
    go_wp2_with fail
    go_ret
    exact ⟨rfl, two_below _ _ _⟩
set_option maxHeartbeats 6400000 in
theorem RCheck_any (a : Va) (w : World) (ha : a.x < 18446744073709551616) (hs : a.s.size ≤ maxLen) :
    Calls Tryd.prog 25 #[a.v] w fun e w' => e = .returned (.int .i64 (chkVa a)) ∧ Below w.heap.size w w' := by
  obtain ⟨k, x, s⟩ := a
  unfold chkVa Va.v eqS
  dsimp only at ha hs ⊢
  unfold maxLen at hs
  rw [nought_eq ha]
  have HN : Hid (∀ w, Calls Tryd.prog 51 #[.float .f64 x] w fun e w' => e = .returned (.bool (x == 0)) ∧ w = w') := fun w => Rnought_any x w
  have HC : Hid (∀ w, Calls Tryd.prog 44 #[] w fun e w' => e = .returned (.float .f64 9221120237041090561) ∧ w = w') := fun w => RefNaN_any w
  have h1 := call_bits x
  have h2 := call_bits 9221120237041090561
  have hne := cmp_ne_self x
  obtain ⟨t, ht⟩ : ∃ t, s.toList = t := ⟨_, rfl⟩
  have he : ((⟨#[]⟩ : ByteArray).toList) = [] := by rw [ByteArray.toList_eq]
  rw [ht, he]
  have hcn : (canon x == x) = (!isNan x || decide (x = 9221120237041090561)) := by
    unfold canon
    cases isNan x
    · simp
    · rw [Bool.eq_iff_iff]
      simp
      exact eq_comm
  have h0n : x = 0 → isNan x = false := by rintro rfl; decide
  rw [hcn]
  clear hcn
  rcases Decidable.em (k = 0) with rfl | h0
  · rw [if_pos rfl]
    cases hn : (x == 0)
    all_goals
      cases hb : (t == ([] : List UInt8))
      all_goals
        rw [hn] at HN
        have hnn : x = 0 → isNan x = false := h0n
        simp only [Bool.and_self, Bool.and_false, Bool.and_true, Bool.false_eq_true, if_false, if_true]
        try rw [h0n (by simpa using hn)] at hne
        go_enter Tryd.func25, Tryd.ntmps25
        go_wp2_with (first
          | (go_at_call 51; refine (HN.out _).mono ?_; rintro e w1 ⟨rfl, rfl⟩)
          | (go_at_call 44; refine (HC.out _).mono ?_; rintro e w1 ⟨rfl, rfl⟩))
        go_ret
        first
          | exact ⟨rfl, one_below _ _⟩
          | exact ⟨rfl, (one_below _ _).trans ⟨rfl, rfl, rfl, Nat.le_refl _, fun k _ => rfl⟩⟩
  rw [if_neg h0]
  rcases Decidable.em (k = 1) with rfl | h1'
  · rw [if_pos rfl]
    cases hb : (t == ([] : List UInt8))
    all_goals
      cases nx : isNan x
      case' true => rcases Decidable.em (x = 9221120237041090561) with hx | hx
      all_goals
        rw [nx] at hne
        try rw [decide_eq_true hx]
        try rw [decide_eq_false hx]
        simp only [Bool.not_true, Bool.not_false, Bool.or_self, Bool.or_true, Bool.true_or, Bool.and_self, Bool.and_false, Bool.and_true, Bool.false_eq_true, if_false, if_true]
        clear nx
        go_enter Tryd.func25, Tryd.ntmps25
        go_wp2_with (first
          | (go_at_call 51; refine (HN.out _).mono ?_; rintro e w1 ⟨rfl, rfl⟩)
          | (go_at_call 44; refine (HC.out _).mono ?_; rintro e w1 ⟨rfl, rfl⟩))
        go_ret
        first
          | exact ⟨rfl, one_below _ _⟩
          | exact ⟨rfl, (one_below _ _).trans ⟨rfl, rfl, rfl, Nat.le_refl _, fun k _ => rfl⟩⟩
  rw [if_neg h1']
  rcases Decidable.em (k = 2) with rfl | h2'
  · rw [if_pos rfl]
    rcases Decidable.em (32 < s.size) with h32 | h32
    case' inl => rw [if_pos h32]
    case' inr =>
      rw [if_neg h32]
      cases hn : (x == 0)
    all_goals
      try rw [hn] at HN
      try simp only [Bool.false_eq_true, if_false, if_true]
      try rw [h0n (by simpa using hn)] at hne
      go_enter Tryd.func25, Tryd.ntmps25
      go_wp2_with (first
        | (go_at_call 51; refine (HN.out _).mono ?_; rintro e w1 ⟨rfl, rfl⟩)
        | (go_at_call 44; refine (HC.out _).mono ?_; rintro e w1 ⟨rfl, rfl⟩))
      go_ret
      first
        | exact ⟨rfl, one_below _ _⟩
        | exact ⟨rfl, (one_below _ _).trans ⟨rfl, rfl, rfl, Nat.le_refl _, fun k _ => rfl⟩⟩
  rw [if_neg h2']
  rcases Decidable.em (k < 0) with hk | hk
  case' inr => have hk2 : 2 < k := by omega
  all_goals
    go_enter Tryd.func25, Tryd.ntmps25
    go_wp2_with (first
      | (go_at_call 51; refine (HN.out _).mono ?_; rintro e w1 ⟨rfl, rfl⟩)
      | (go_at_call 44; refine (HC.out _).mono ?_; rintro e w1 ⟨rfl, rfl⟩))
    go_ret
    first
      | exact ⟨rfl, one_below _ _⟩
      | exact ⟨rfl, (one_below _ _).trans ⟨rfl, rfl, rfl, Nat.le_refl _, fun k _ => rfl⟩⟩
end Go.Proofs.YtkckncggiicciaaDoor
