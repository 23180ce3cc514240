/-
  The walks of num.Ticks and the page's.
-/
import Derived.Test.YtdcjbodkcldpbaaDoorNumb
namespace Go.Proofs.YtdcjbodkcldpbaaDoor
open Go.RowKit
theorem dec64 (x : Nat) : FloatKind.f64.decode x = Ieee.double.read x := rfl
theorem nan_read (x : Nat) : (Ieee.double.read x).isNaN = isNan x := by
  unfold isNan
  by_cases h : rg x < 9218868437227405312
  · obtain ⟨m, p, e, _⟩ := read_num h
    rw [e, decide_eq_false (by omega)]
    rfl
  · by_cases h2 : rg x = 9218868437227405312
    · rw [read_inf h2, decide_eq_false (by omega)]
      rfl
    · obtain ⟨t, e⟩ := read_nan (show 9218868437227405312 < rg x by omega)
      rw [e, decide_eq_true (by omega)]
      rfl
theorem ceil_run {P : Program} : ∃ q : Question, q.forced = false ∧ ∀ (d : Ieee.Datum) (x : Nat) (w : World), FloatKind.f64.decode x = d →
    (Extern.MathFloor.toIntegral "math.archCeil" .up #[.float .f64 x]).run P w = Sem.run P (match d with
      | .nan s t => if FloatKind.f64.format.quiet t = t then pure (.float .f64 x) else do
        let kept ← choose q
        pure (.float .f64 (if kept == 1 then x else FloatKind.f64.encode (.nan s (FloatKind.f64.format.quiet t))))
      | d => pure (.float .f64 (FloatKind.f64.encode (d.integral .up)))) w := by
  apply Exists.intro
  apply And.intro
  rotate_left
  · intro d x w hd
    subst hd
    exact Eq.refl _
  · rfl
theorem call_ceil (x : Nat) (w : World) (hx : isNan x = false) (lx : x < 18446744073709551616) : (callFunc 49 #[.float .f64 x]).run Tryd.prog w = .ok (.value (.float .f64 (ceilW x))) w := by
  rw [run_callFunc_extern Tryd.func49 (by kernel_rfl) (by kernel_rfl) (by kernel_rfl) (e := Extern.MathFloor.toIntegral "math.archCeil" .up) (by kernel_rfl)]
  obtain ⟨q, _, hq⟩ := ceil_run (P := Tryd.prog)
  rw [hq _ x w rfl]
  have hn := nan_read x
  rw [hx] at hn
  have he := ceil_enc hx lx
  rw [dec64] at he ⊢
  cases hd : Ieee.double.read x with
  | nan s t => rw [hd] at hn; cases hn
  | number s m p =>
    rw [hd] at he
    show Result.andThen (Sem.run Tryd.prog (pure (Value.float .f64 _)) w) _ = _
    rw [he]
    rfl
  | infinity s =>
    rw [hd] at he
    show Result.andThen (Sem.run Tryd.prog (pure (Value.float .f64 _)) w) _ = _
    rw [he]
    rfl
set_option maxHeartbeats 400000 in
theorem Ceil_num (x : Nat) (w : World) (hx : isNan x = false) (lx : x < 18446744073709551616) : Calls Tryd.prog 38 #[.float .f64 x] w fun e w' => e = .returned (.float .f64 (ceilW x)) ∧ w = w' := by
  have hc := fun w => call_ceil x w hx lx
  go_enter Tryd.func38, Tryd.ntmps38
  go_wp2_with fail
  go_ret
  exact ⟨rfl, rfl⟩
/-- A number rounded up, within a span. -/
def ticksV (x : Nat) (lo hi : Int) : Int :=
  if hi < lo then lo else if rk (ceilW x) < -4890909195324358656 then lo else if 4890909195324358656 ≤ rk (ceilW x) then hi else max (min (cutI (ceilW x)) hi) lo
theorem T_facts : isNan 4890909195324358656 = false ∧ isNan 14114281232179134464 = false ∧ rk 4890909195324358656 = 4890909195324358656 ∧ rk 14114281232179134464 = -4890909195324358656 := by decide
set_option maxHeartbeats 1600000 in
theorem Ticks_num (x : Nat) (lo hi : Int) (w : World) (hx : isNan x = false) (lx : x < 18446744073709551616) :
    Calls Tryd.prog 11 #[.float .f64 x, .int .i64 lo, .int .i64 hi] w fun e w' => e = .returned (.int .i64 (ticksV x lo hi)) ∧ w = w' := by
  have hC : ∀ w, Calls Tryd.prog 38 #[.float .f64 x] w fun e w' => e = .returned (.float .f64 (ceilW x)) ∧ w = w' := fun w => Ceil_num x w hx lx
  obtain ⟨lc, nc⟩ := ceil_lt lx
  have nc := nc hx
  unfold ticksV
  obtain ⟨c, hc⟩ : ∃ c, ceilW x = c := ⟨_, rfl⟩
  rw [hc] at hC lc nc ⊢
  clear hc
  have HC := Lib.hid hC
  clear hC
  have hlt := cmp_lt c 14114281232179134464
  have hge := cmp_ge c 4890909195324358656
  rw [nc, T_facts.2.1, T_facts.2.2.2] at hlt
  rw [nc, T_facts.1, T_facts.2.2.1] at hge
  simp only [Bool.not_false, Bool.true_and] at hlt hge
  by_cases h1 : hi < lo
  · rw [if_pos h1]
    go_enter Tryd.func11, Tryd.ntmps11
    go_wp2_with (first | (go_at_call 38; refine (HC.out _).mono ?_; rintro e w1 ⟨rfl, rfl⟩) | (go_at_call 39; refine (IsNaN_any _ _).mono ?_; rintro e w1 ⟨rfl, rfl⟩))
    go_ret
    exact ⟨rfl, rfl⟩
  rw [if_neg h1]
  by_cases h2 : rk c < -4890909195324358656
  · rw [if_pos h2]
    rw [decide_eq_true h2] at hlt
    clear h2 hge
    go_enter Tryd.func11, Tryd.ntmps11
    go_wp2_with (first | (go_at_call 38; refine (HC.out _).mono ?_; rintro e w1 ⟨rfl, rfl⟩) | (go_at_call 39; refine (IsNaN_any _ _).mono ?_; rintro e w1 ⟨rfl, rfl⟩))
    go_ret
    exact ⟨rfl, rfl⟩
  rw [if_neg h2]
  rw [decide_eq_false h2] at hlt
  by_cases h3 : 4890909195324358656 ≤ rk c
  · rw [if_pos h3]
    rw [decide_eq_true h3] at hge
    clear h2 h3
    go_enter Tryd.func11, Tryd.ntmps11
    go_wp2_with (first | (go_at_call 38; refine (HC.out _).mono ?_; rintro e w1 ⟨rfl, rfl⟩) | (go_at_call 39; refine (IsNaN_any _ _).mono ?_; rintro e w1 ⟨rfl, rfl⟩))
    go_ret
    exact ⟨rfl, rfl⟩
  rw [if_neg h3]
  rw [decide_eq_false h3] at hge
  have hv := toIntVal_eq (x := c) (by omega) (by omega)
  have hq := fun w => run_convert_float_int (P := Tryd.prog) w 22 3 .f64 .i64 c _ (by kernel_rfl) Tryd.underlying3 hv
  obtain ⟨_, hb1, hb2⟩ := cutI_bd (x := c) (by omega) (by omega)
  obtain ⟨n, hn⟩ : ∃ n, cutI c = n := ⟨_, rfl⟩
  rw [hn] at hq hb1 hb2 ⊢
  clear hn hv h2 h3
  go_enter Tryd.func11, Tryd.ntmps11
  go_wp2_with (first | (go_at_call 38; refine (HC.out _).mono ?_; rintro e w1 ⟨rfl, rfl⟩) | (go_at_call 39; refine (IsNaN_any _ _).mono ?_; rintro e w1 ⟨rfl, rfl⟩))
  all_goals
    go_ret
    exact ⟨ret_int (by omega), rfl⟩
set_option maxHeartbeats 1600000 in
theorem RefTicks_num (x : Nat) (lo hi : Int) (w : World) (hx : isNan x = false) (lx : x < 18446744073709551616) :
    Calls Tryd.prog 12 #[.float .f64 x, .int .i64 lo, .int .i64 hi] w fun e w' => e = .returned (.int .i64 (ticksV x lo hi)) ∧ w = w' := by
  have hC : ∀ w, Calls Tryd.prog 38 #[.float .f64 x] w fun e w' => e = .returned (.float .f64 (ceilW x)) ∧ w = w' := fun w => Ceil_num x w hx lx
  obtain ⟨lc, nc⟩ := ceil_lt lx
  have nc := nc hx
  unfold ticksV
  obtain ⟨c, hc⟩ : ∃ c, ceilW x = c := ⟨_, rfl⟩
  rw [hc] at hC lc nc ⊢
  clear hc
  have HC := Lib.hid hC
  clear hC
  have hne := cmp_ne_self x
  rw [hx] at hne
  have hlt := cmp_lt c 14114281232179134464
  have hge := cmp_ge c 4890909195324358656
  rw [nc, T_facts.2.1, T_facts.2.2.2] at hlt
  rw [nc, T_facts.1, T_facts.2.2.1] at hge
  simp only [Bool.not_false, Bool.true_and] at hlt hge
  by_cases h1 : hi < lo
  · rw [if_pos h1]
    go_enter Tryd.func12, Tryd.ntmps12
    go_wp2_with (go_at_call 38; refine (HC.out _).mono ?_; rintro e w1 ⟨rfl, rfl⟩)
    go_ret
    exact ⟨rfl, rfl⟩
  rw [if_neg h1]
  by_cases h2 : rk c < -4890909195324358656
  · rw [if_pos h2]
    rw [decide_eq_true h2] at hlt
    rw [decide_eq_false (show ¬ 4890909195324358656 ≤ rk c by omega)] at hge
    clear h2
    go_enter Tryd.func12, Tryd.ntmps12
    go_wp2_with (go_at_call 38; refine (HC.out _).mono ?_; rintro e w1 ⟨rfl, rfl⟩)
    go_ret
    exact ⟨rfl, rfl⟩
  rw [if_neg h2]
  rw [decide_eq_false h2] at hlt
  by_cases h3 : 4890909195324358656 ≤ rk c
  · rw [if_pos h3]
    rw [decide_eq_true h3] at hge
    clear h2 h3
    go_enter Tryd.func12, Tryd.ntmps12
    go_wp2_with (go_at_call 38; refine (HC.out _).mono ?_; rintro e w1 ⟨rfl, rfl⟩)
    go_ret
    exact ⟨rfl, rfl⟩
  rw [if_neg h3]
  rw [decide_eq_false h3] at hge
  have hv := toIntVal_eq (x := c) (by omega) (by omega)
  have hq := fun w => run_convert_float_int (P := Tryd.prog) w 22 3 .f64 .i64 c _ (by kernel_rfl) Tryd.underlying3 hv
  obtain ⟨_, hb1, hb2⟩ := cutI_bd (x := c) (by omega) (by omega)
  obtain ⟨n, hn⟩ : ∃ n, cutI c = n := ⟨_, rfl⟩
  rw [hn] at hq hb1 hb2 ⊢
  clear hn hv h2 h3
  go_enter Tryd.func12, Tryd.ntmps12
  go_wp2_with (go_at_call 38; refine (HC.out _).mono ?_; rintro e w1 ⟨rfl, rfl⟩)
  all_goals
    go_ret
    exact ⟨ret_int (by omega), rfl⟩
/-! ### Of a NaN -/
theorem quiet_nan (s : Bool) (t : Nat) : isNan (FloatKind.f64.encode (.nan s (FloatKind.f64.format.quiet t))) = true := by
  show isNan (Ieee.double.word s (9218868437227405312 + (t ||| 2251799813685248) % 4503599627370496)) = true
  rw [word_wd]
  have h1 : (t ||| 2251799813685248) % 4503599627370496 < 4503599627370496 := Nat.mod_lt _ (by omega)
  have h2 : 2251799813685248 ≤ (t ||| 2251799813685248) % 4503599627370496 := by
    have e : (4503599627370496 : Nat) = 2 ^ 52 := rfl
    rw [e, Nat.or_mod_two_pow]
    have e2 : (2251799813685248 : Nat) % 2 ^ 52 = 2251799813685248 := rfl
    rw [e2]
    exact Nat.right_le_or
  unfold isNan
  rw [rg_wd (by omega)]
  simp
  omega
theorem call_ceil_nan (x : Nat) (hx : isNan x = true) : ∃ (f : World → Nat) (k : Nat), (∀ w, isNan (f w) = true) ∧ ∀ w, (callFunc 49 #[.float .f64 x]).run Tryd.prog w = .ok (.value (.float .f64 (f w))) (w.drewN k) := by
  have hn := nan_read x
  rw [hx] at hn
  obtain ⟨q, hqf, hq⟩ := ceil_run (P := Tryd.prog)
  cases hd : Ieee.double.read x with
  | number s m p => rw [hd] at hn; cases hn
  | infinity s => rw [hd] at hn; cases hn
  | nan s t =>
    have hr : ∀ w, (callFunc 49 #[.float .f64 x]).run Tryd.prog w = Result.andThen (Sem.run Tryd.prog (if FloatKind.f64.format.quiet t = t then pure (Value.float .f64 x) else do
        let kept ← choose q
        pure (.float .f64 (if kept == 1 then x else FloatKind.f64.encode (.nan s (FloatKind.f64.format.quiet t))))) w) fun v w' => .ok (.value v) w' := fun w => by
      rw [run_callFunc_extern Tryd.func49 (by kernel_rfl) (by kernel_rfl) (by kernel_rfl) (e := Extern.MathFloor.toIntegral "math.archCeil" .up) (by kernel_rfl), hq _ x w ((dec64 x).trans hd)]
    by_cases hqt : FloatKind.f64.format.quiet t = t
    · refine ⟨fun _ => x, 0, fun _ => hx, fun w => ?_⟩
      rw [hr, if_pos hqt]
      rfl
    · refine ⟨fun w => if (q.cut (w.tape w.drawn q) == 1) = true then x else FloatKind.f64.encode (.nan s (FloatKind.f64.format.quiet t)), 1, fun w => ?_, fun w => ?_⟩
      · show isNan (if (q.cut (w.tape w.drawn q) == 1) = true then x else FloatKind.f64.encode (.nan s (FloatKind.f64.format.quiet t))) = true
        split
        · exact hx
        · exact quiet_nan s t
      · rw [hr, if_neg hqt]
        simp [choose, Sem.run, hqf, Result.andThen]
        try rfl
/-- A float rounded up, within a span. -/
def tickV (x : Nat) (lo hi : Int) : Int := if isNan x = true then lo else ticksV x lo hi
set_option maxHeartbeats 1600000 in
theorem Ticks_any (x : Nat) (lo hi : Int) (w : World) (lx : x < 18446744073709551616) :
    Calls Tryd.prog 11 #[.float .f64 x, .int .i64 lo, .int .i64 hi] w (Qt w (.int .i64 (tickV x lo hi))) := by
  unfold tickV
  cases hx : isNan x
  case false => exact (Ticks_num x lo hi w hx lx).mono fun e w' ⟨h1, h2⟩ => ⟨h1, 0, h2.symm⟩
  case true =>
    obtain ⟨f, k, hf, hc⟩ := call_ceil_nan x hx
    have hC : ∀ w, Calls Tryd.prog 38 #[.float .f64 x] w fun e w' => e = .returned (.float .f64 (f w)) ∧ w' = w.drewN k := fun w => by
      go_enter Tryd.func38, Tryd.ntmps38
      go_wp2_with fail
      go_ret
      exact ⟨rfl, rfl⟩
    have HC := Lib.hid hC
    clear hC hc
    simp only [if_true]
    go_enter Tryd.func11, Tryd.ntmps11
    go_wp2_with (first | (go_at_call 38; refine (HC.out _).mono ?_; rintro e w1 ⟨rfl, rfl⟩) | (go_at_call 39; refine (IsNaN_any _ _).mono ?_; rintro e w1 ⟨rfl, rfl⟩))
    go_ret
    exact ⟨rfl, k, rfl⟩
set_option maxHeartbeats 400000 in
theorem RefTicks_any (x : Nat) (lo hi : Int) (w : World) (lx : x < 18446744073709551616) :
    Calls Tryd.prog 12 #[.float .f64 x, .int .i64 lo, .int .i64 hi] w fun e w' => e = .returned (.int .i64 (tickV x lo hi)) ∧ w = w' := by
  unfold tickV
  cases hx : isNan x
  case false => exact RefTicks_num x lo hi w hx lx
  case true =>
    have hne := cmp_ne_self x
    rw [hx] at hne
    clear hx
    simp only [if_true]
    by_cases h : hi < lo
    all_goals
      go_enter Tryd.func12, Tryd.ntmps12
      go_wp2_with fail
      go_ret
      exact ⟨rfl, rfl⟩
theorem ticks_in {x : Nat} {lo hi : Int} (h : lo ≤ hi) : lo ≤ ticksV x lo hi ∧ ticksV x lo hi ≤ hi := by
  unfold ticksV
  rw [if_neg (by omega)]
  split
  · omega
  · split
    · omega
    · omega
theorem tick_in (x : Nat) {lo hi : Int} (h : lo ≤ hi) : lo ≤ tickV x lo hi ∧ tickV x lo hi ≤ hi := by
  unfold tickV
  split
  · omega
  · exact ticks_in h
theorem ticks_mono {x y : Nat} {lo hi : Int} (hx : isNan x = false) (hy : isNan y = false) (h : rk x ≤ rk y) : ticksV x lo hi ≤ ticksV y lo hi := by
  have hc := ceil_mono hx hy h
  unfold ticksV
  split
  · omega
  · split
    · split
      · omega
      · split <;> omega
    · rw [if_neg (show ¬ rk (ceilW y) < -4890909195324358656 by omega)]
      split
      · rw [if_pos (show 4890909195324358656 ≤ rk (ceilW y) by omega)]
        exact Int.le_refl _
      · split
        · omega
        · have h1 := cutI_bd (x := ceilW x) (by omega) (by omega)
          have h2 := cutI_bd (x := ceilW y) (by omega) (by omega)
          have h3 := cutI_mono h1.1 h2.1 hc
          omega
theorem tick_mono {x y : Nat} {lo hi : Int} (hx : isNan x = false) (hy : isNan y = false) (h : rk x ≤ rk y) : tickV x lo hi ≤ tickV y lo hi := by
  unfold tickV
  rw [hx, hy]
  exact ticks_mono hx hy h
end Go.Proofs.YtdcjbodkcldpbaaDoor
