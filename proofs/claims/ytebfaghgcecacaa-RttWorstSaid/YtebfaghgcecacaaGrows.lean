/-
  The walk of PulseGrows.
-/
import Derived.Test.YtebfaghgcecacaaDoubt
namespace Go.Proofs.Ytebfaghgcecacaa
open Go.RowKit
theorem Doubt_any (s : Int) (m v : Nat) (w : World) (hs : -9223372036854775808 ≤ s ∧ s ≤ 9223372036854775807) (hm : m < 18446744073709551616) (hv : v < 18446744073709551616) :
    Calls Try.prog 12 #[.int .i64 s, .agg #[.float .f64 m, .float .f64 v]] w (DoubtPost s m v w) := by
  cases hc : chk m v
  · exact Doubt_no s m v w hm hv hc
  · exact Doubt_yes s m v w hs hm hv hc
set_option maxHeartbeats 400000 in
theorem RefNaN_any (w : World) : Calls Try.prog 42 #[] w fun e w' => e = .returned (.float .f64 9221120237041090561) ∧ w = w' := by
  have hc := call_frombits
  go_enter Try.func42, Try.ntmps42
  go_wp2_with fail
  go_ret
  exact ⟨rfl, rfl⟩
set_option maxHeartbeats 400000 in
theorem RefNew_any (w : World) : Calls Try.prog 19 #[] w fun e w' => e = .returned (.agg #[.float .f64 9221120237041090561, .float .f64 9221120237041090561]) ∧ Below w.heap.size w w' := by
  have hst := run_store_float
  go_enter Try.func19, Try.ntmps19
  go_wp2_with (refine (RefNaN_any _).mono ?_; rintro e w2 ⟨rfl, rfl⟩)
  exact bodyPost_ret (v := .agg #[.float .f64 9221120237041090561, .float .f64 9221120237041090561]) (by simp [results, Try.results19, go_sem]) rfl ⟨rfl, (Below.refl _ _).alloc (Nat.le_refl _) _⟩
set_option maxHeartbeats 400000 in
theorem IsInf_top (w : World) : Calls Try.prog 14 #[.float .f64 9218868437227405312, .int .i64 1] w fun e w' => e = .returned (.bool true) ∧ w = w' := by
  have hg : (FloatKind.f64.format.order 9218868437227405312 9218868437227405311 == some Ordering.gt) = true := by rw [cmp_gt]; decide
  go_enter Try.func14, Try.ntmps14
  go_wp2_with fail
  go_ret
  exact ⟨rfl, rfl⟩
theorem nan_nan : isNan 9221120237041090561 = true := by decide
theorem quarter : doubt 3 9221120237041090561 9221120237041090561 = 4598175219545276416 := by decide +kernel
set_option maxHeartbeats 400000 in
theorem wakes_any (w : World) : Calls Try.prog 13 #[] w fun e w' => e = .returned (.bool true) ∧ Below w.heap.size w w' := by
  have hD : ∀ w, Calls Try.prog 12 #[.int .i64 3, .agg #[.float .f64 9221120237041090561, .float .f64 9221120237041090561]] w fun e w' => e = .returned (.tuple #[.float .f64 4598175219545276416, .int .i64 0]) ∧ Below w.heap.size w w' := fun w =>
    (Doubt_any 3 _ _ w (by omega) (by omega) (by omega)).mono fun e w' ⟨h1, h2⟩ => by
      rw [if_pos (by decide), quarter] at h1
      exact ⟨h1, h2⟩
  have HD := Lib.hid hD
  clear hD
  have hg : (FloatKind.f64.format.order 4598175219545276416 4598175219545276416 == some Ordering.eq) = true := by rw [cmp_eq]; decide
  go_enter Try.func13, Try.ntmps13
  go_wp2_with fail
  refine (RefNew_any _).mono ?_
  rintro e w1 ⟨rfl, hb1⟩
  go_wp2_with fail
  refine (HD.out _).mono ?_
  rintro e w2 ⟨rfl, hb2⟩
  go_wp2_with fail
  go_ret
  exact ⟨rfl, hb1.trans (hb2.mono (by have := hb1.size; omega))⟩
/-! ### The doubt grows -/
theorem doubt_le (s : Int) (m v : Nat) : doubt s m v ≤ 9218868437227405312 := by
  unfold doubt
  split
  · omega
  · split
    · omega
    · exact dv_le _ _
theorem doubt_mono (s t : Int) (m v : Nat) (h : s ≤ t) : doubt s m v ≤ doubt t m v := by
  by_cases h0 : s ≤ 0
  · have : doubt s m v = 0 := by unfold doubt; rw [if_pos h0]
    omega
  by_cases h12 : 12 ≤ t
  · have : doubt t m v = 9218868437227405312 := by unfold doubt; rw [if_neg (by omega), if_pos h12]
    rw [this]
    exact doubt_le s m v
  have e1 : ¬ 12 ≤ s := by omega
  have e2 : ¬ t ≤ 0 := by omega
  unfold doubt
  rw [if_neg h0, if_neg e1, if_neg e2, if_neg h12]
  refine dv_mono ?_ (fi_mono (show s.toNat ≤ t.toNat by omega))
  have := fi_bd (n := t.toNat) (by omega)
  omega
theorem small_cmp {a b : Nat} (ha : a ≤ 9218868437227405312) (hb : b ≤ 9218868437227405312) : isNan a = false ∧ isNan b = false ∧ rk a = a ∧ rk b = b := by
  obtain ⟨r1, s1⟩ := rg_small ha
  obtain ⟨r2, s2⟩ := rg_small hb
  refine ⟨(right_sg (right_small ha)).1, (right_sg (right_small hb)).1, ?_, ?_⟩
  · unfold rk; rw [s1, r1]; rfl
  · unfold rk; rw [s2, r2]; rfl
theorem small_ge {a b : Nat} (ha : a ≤ 9218868437227405312) (hb : b ≤ a) : (FloatKind.f64.format.order a b == some Ordering.gt || FloatKind.f64.format.order a b == some Ordering.eq) = true := by
  obtain ⟨n1, n2, k1, k2⟩ := small_cmp ha (Nat.le_trans hb ha)
  rw [cmp_ge, n1, n2, k1, k2]
  simpa using hb
theorem small_eq {a b : Nat} (ha : a ≤ 9218868437227405312) (hb : b ≤ 9218868437227405312) : (FloatKind.f64.format.order a b == some Ordering.eq) = decide (a = b) := by
  obtain ⟨n1, n2, k1, k2⟩ := small_cmp ha hb
  rw [cmp_eq, n1, n2, k1, k2]
  simp
  omega
set_option maxHeartbeats 3200000 in
theorem grows_walk (s t : Int) (m v : Nat) (W : World) (hs : -9223372036854775808 ≤ s ∧ s ≤ 9223372036854775807) (ht : -9223372036854775808 ≤ t ∧ t ≤ 9223372036854775807) (hm : m < 18446744073709551616) (hv : v < 18446744073709551616) :
    Calls Try.prog 3 #[.int .i64 s, .int .i64 t, .agg #[.float .f64 m, .float .f64 v]] W fun e w' => e = .returned (.bool true) ∧ Below W.heap.size W w' := by
  have D1 := fun w => Doubt_any s m v w hs hm hv
  have D2 := fun w => Doubt_any t m v w ht hm hv
  unfold DoubtPost at D1 D2
  cases hc : chk m v
  · rw [hc] at D1 D2
    simp only [Bool.false_eq_true, if_false] at D1 D2
    have H1 := Lib.hid D1
    have H2 := Lib.hid D2
    clear D1 D2 hc
    go_enter Try.func3, Try.ntmps3
    go_wp2_with fail
    refine (H1.out _).mono ?_
    rintro e w1 ⟨rfl, hb1⟩
    obtain ⟨hc1, hf1⟩ := bcell hb1
    go_wp2_with fail
    refine (H2.out _).mono ?_
    rintro e w2 ⟨rfl, hb2⟩
    go_wp2_with fail
    refine (wakes_any _).mono ?_
    rintro e w3 ⟨rfl, hb3⟩
    go_wp2_with fail
    go_ret
    exact ⟨rfl, (((Below.refl _ _).alloc (Nat.le_refl _) _).trans (hb1.mono (by simp))).trans ((hb2.mono (by have := hb1.size; simp at this; omega)).trans (hb3.mono (by have := hb1.size; have := hb2.size; simp at *; omega)))⟩
  · rw [hc] at D1 D2
    simp only [if_true] at D1 D2
    have l1 := doubt_le s m v
    have l2 := doubt_le t m v
    by_cases hst : s ≤ t
    · have hmo := doubt_mono s t m v hst
      have hz : ¬ 0 < s → doubt s m v = 0 := fun h => by unfold doubt; rw [if_pos (by omega)]
      have hi : ¬ t < 12 → doubt t m v = 9218868437227405312 := fun h => by unfold doubt; rw [if_neg (by omega), if_pos (by omega)]
      have g1 := small_ge l1 (Nat.zero_le _)
      have g2 := small_ge l2 hmo
      have g3 := small_eq l1 (Nat.zero_le _)
      generalize doubt s m v = a at *
      generalize doubt t m v = b at *
      have H1 := Lib.hid D1
      have H2 := Lib.hid D2
      clear D1 D2 hc
      rcases Decidable.em (0 < s) with h0 | h0
      case' inr =>
        rw [hz h0] at g1 g2 g3 H1 hmo
        rw [decide_eq_true rfl] at g3
      all_goals rcases Decidable.em (t < 12) with h12 | h12
      case' inr.inr | inl.inr => rw [hi h12] at g2 H2
      all_goals clear hz hi hmo
      case' inl.inl | inl.inr => clear g3
      all_goals
        go_enter Try.func3, Try.ntmps3
        go_wp2_with fail
        refine (H1.out _).mono ?_
        rintro e w1 ⟨rfl, hb1⟩
        obtain ⟨hc1, hf1⟩ := bcell hb1
        go_wp2_with fail
        refine (H2.out _).mono ?_
        rintro e w2 ⟨rfl, hb2⟩
        go_wp2_with (go_at_call 14; refine (IsInf_top _).mono ?_; rintro e w3 ⟨rfl, rfl⟩)
        refine (wakes_any _).mono ?_
        rintro e w3 ⟨rfl, hb3⟩
        go_wp2_with fail
        go_ret
        exact ⟨rfl, (((Below.refl _ _).alloc (Nat.le_refl _) _).trans (hb1.mono (by simp))).trans ((hb2.mono (by have := hb1.size; simp at this; omega)).trans (hb3.mono (by have := hb1.size; have := hb2.size; simp at *; omega)))⟩
    · have H1 := Lib.hid D1
      have H2 := Lib.hid D2
      clear D1 D2 hc
      go_enter Try.func3, Try.ntmps3
      go_wp2_with fail
      refine (H1.out _).mono ?_
      rintro e w1 ⟨rfl, hb1⟩
      obtain ⟨hc1, hf1⟩ := bcell hb1
      go_wp2_with fail
      refine (H2.out _).mono ?_
      rintro e w2 ⟨rfl, hb2⟩
      go_wp2_with fail
      refine (wakes_any _).mono ?_
      rintro e w3 ⟨rfl, hb3⟩
      go_wp2_with fail
      go_ret
      exact ⟨rfl, (((Below.refl _ _).alloc (Nat.le_refl _) _).trans (hb1.mono (by simp))).trans ((hb2.mono (by have := hb1.size; simp at this; omega)).trans (hb3.mono (by have := hb1.size; have := hb2.size; simp at *; omega)))⟩
end Go.Proofs.Ytebfaghgcecacaa
