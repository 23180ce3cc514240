/-
  The walks of num.Ticks and the page's, of a number.
-/
import Derived.Test.YtebfaghgcecacaaRtt
namespace Go.Proofs.Ytebfaghgcecacaa
open Go.RowKit
/-- A number rounded up, within a span. -/
def ticksV (x : Nat) (lo hi : Int) : Int :=
  if hi < lo then lo else if rk (ceilW x) < -4890909195324358656 then lo else if 4890909195324358656 ≤ rk (ceilW x) then hi else max (min (cutI (ceilW x)) hi) lo
theorem T_facts : isNan 4890909195324358656 = false ∧ isNan 14114281232179134464 = false ∧ rk 4890909195324358656 = 4890909195324358656 ∧ rk 14114281232179134464 = -4890909195324358656 := by decide
set_option maxHeartbeats 1600000 in
theorem Ticks_num (x : Nat) (lo hi : Int) (w : World) (hx : isNan x = false) (lx : x < 18446744073709551616) :
    Calls Try.prog 56 #[.float .f64 x, .int .i64 lo, .int .i64 hi] w fun e w' => e = .returned (.int .i64 (ticksV x lo hi)) ∧ w = w' := by
  have hC : ∀ w, Calls Try.prog 64 #[.float .f64 x] w fun e w' => e = .returned (.float .f64 (ceilW x)) ∧ w = w' := fun w => Ceil_num x w hx lx
  obtain ⟨lc, nc⟩ := ceil_lt lx
  have nc := nc hx
  unfold ticksV
  obtain ⟨c, hc⟩ : ∃ c, ceilW x = c := ⟨_, rfl⟩
  rw [hc] at hC lc nc ⊢
  clear hc
  have HC := Lib.hid hC
  clear hC
  have hlt := cmp_lt c 14114281232179134464
  have hge := cmp_ge c 4890909195324358656
  rw [nc, T_facts.2.1, T_facts.2.2.2] at hlt
  rw [nc, T_facts.1, T_facts.2.2.1] at hge
  simp only [Bool.not_false, Bool.true_and] at hlt hge
  by_cases h1 : hi < lo
  · rw [if_pos h1]
    go_enter Try.func56, Try.ntmps56
    go_wp2_with (first | (go_at_call 64; refine (HC.out _).mono ?_; rintro e w1 ⟨rfl, rfl⟩) | (go_at_call 36; refine (IsNaN_any _ _).mono ?_; rintro e w1 ⟨rfl, rfl⟩))
    go_ret
    exact ⟨rfl, rfl⟩
  rw [if_neg h1]
  by_cases h2 : rk c < -4890909195324358656
  · rw [if_pos h2]
    rw [decide_eq_true h2] at hlt
    clear h2 hge
    go_enter Try.func56, Try.ntmps56
    go_wp2_with (first | (go_at_call 64; refine (HC.out _).mono ?_; rintro e w1 ⟨rfl, rfl⟩) | (go_at_call 36; refine (IsNaN_any _ _).mono ?_; rintro e w1 ⟨rfl, rfl⟩))
    go_ret
    exact ⟨rfl, rfl⟩
  rw [if_neg h2]
  rw [decide_eq_false h2] at hlt
  by_cases h3 : 4890909195324358656 ≤ rk c
  · rw [if_pos h3]
    rw [decide_eq_true h3] at hge
    clear h2 h3
    go_enter Try.func56, Try.ntmps56
    go_wp2_with (first | (go_at_call 64; refine (HC.out _).mono ?_; rintro e w1 ⟨rfl, rfl⟩) | (go_at_call 36; refine (IsNaN_any _ _).mono ?_; rintro e w1 ⟨rfl, rfl⟩))
    go_ret
    exact ⟨rfl, rfl⟩
  rw [if_neg h3]
  rw [decide_eq_false h3] at hge
  have hv := toIntVal_eq (x := c) (by omega) (by omega)
  have hq := fun w => run_convert_float_int (P := Try.prog) w 22 3 .f64 .i64 c _ (by kernel_rfl) Try.underlying3 hv
  obtain ⟨_, hb1, hb2⟩ := cutI_bd (x := c) (by omega) (by omega)
  obtain ⟨n, hn⟩ : ∃ n, cutI c = n := ⟨_, rfl⟩
  rw [hn] at hq hb1 hb2 ⊢
  clear hn hv h2 h3
  go_enter Try.func56, Try.ntmps56
  go_wp2_with (first | (go_at_call 64; refine (HC.out _).mono ?_; rintro e w1 ⟨rfl, rfl⟩) | (go_at_call 36; refine (IsNaN_any _ _).mono ?_; rintro e w1 ⟨rfl, rfl⟩))
  all_goals
    go_ret
    exact ⟨ret_int (by omega), rfl⟩
set_option maxHeartbeats 1600000 in
theorem RefTicks_num (x : Nat) (lo hi : Int) (w : World) (hx : isNan x = false) (lx : x < 18446744073709551616) :
    Calls Try.prog 57 #[.float .f64 x, .int .i64 lo, .int .i64 hi] w fun e w' => e = .returned (.int .i64 (ticksV x lo hi)) ∧ w = w' := by
  have hC : ∀ w, Calls Try.prog 64 #[.float .f64 x] w fun e w' => e = .returned (.float .f64 (ceilW x)) ∧ w = w' := fun w => Ceil_num x w hx lx
  obtain ⟨lc, nc⟩ := ceil_lt lx
  have nc := nc hx
  unfold ticksV
  obtain ⟨c, hc⟩ : ∃ c, ceilW x = c := ⟨_, rfl⟩
  rw [hc] at hC lc nc ⊢
  clear hc
  have HC := Lib.hid hC
  clear hC
  have hne := cmp_ne_self x
  rw [hx] at hne
  have hlt := cmp_lt c 14114281232179134464
  have hge := cmp_ge c 4890909195324358656
  rw [nc, T_facts.2.1, T_facts.2.2.2] at hlt
  rw [nc, T_facts.1, T_facts.2.2.1] at hge
  simp only [Bool.not_false, Bool.true_and] at hlt hge
  by_cases h1 : hi < lo
  · rw [if_pos h1]
    go_enter Try.func57, Try.ntmps57
    go_wp2_with (go_at_call 64; refine (HC.out _).mono ?_; rintro e w1 ⟨rfl, rfl⟩)
    go_ret
    exact ⟨rfl, rfl⟩
  rw [if_neg h1]
  by_cases h2 : rk c < -4890909195324358656
  · rw [if_pos h2]
    rw [decide_eq_true h2] at hlt
    rw [decide_eq_false (show ¬ 4890909195324358656 ≤ rk c by omega)] at hge
    clear h2
    go_enter Try.func57, Try.ntmps57
    go_wp2_with (go_at_call 64; refine (HC.out _).mono ?_; rintro e w1 ⟨rfl, rfl⟩)
    go_ret
    exact ⟨rfl, rfl⟩
  rw [if_neg h2]
  rw [decide_eq_false h2] at hlt
  by_cases h3 : 4890909195324358656 ≤ rk c
  · rw [if_pos h3]
    rw [decide_eq_true h3] at hge
    clear h2 h3
    go_enter Try.func57, Try.ntmps57
    go_wp2_with (go_at_call 64; refine (HC.out _).mono ?_; rintro e w1 ⟨rfl, rfl⟩)
    go_ret
    exact ⟨rfl, rfl⟩
  rw [if_neg h3]
  rw [decide_eq_false h3] at hge
  have hv := toIntVal_eq (x := c) (by omega) (by omega)
  have hq := fun w => run_convert_float_int (P := Try.prog) w 22 3 .f64 .i64 c _ (by kernel_rfl) Try.underlying3 hv
  obtain ⟨_, hb1, hb2⟩ := cutI_bd (x := c) (by omega) (by omega)
  obtain ⟨n, hn⟩ : ∃ n, cutI c = n := ⟨_, rfl⟩
  rw [hn] at hq hb1 hb2 ⊢
  clear hn hv h2 h3
  go_enter Try.func57, Try.ntmps57
  go_wp2_with (go_at_call 64; refine (HC.out _).mono ?_; rintro e w1 ⟨rfl, rfl⟩)
  all_goals
    go_ret
    exact ⟨ret_int (by omega), rfl⟩
end Go.Proofs.Ytebfaghgcecacaa
