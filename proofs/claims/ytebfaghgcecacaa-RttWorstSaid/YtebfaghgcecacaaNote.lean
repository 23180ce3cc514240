/-
  The walks of rtt.smooth, apart, known, Note.
-/
import Derived.Test.YtebfaghgcecacaaTicks
import Derived.Test.YtebfaghgcecacaaRefp
namespace Go.Proofs.Ytebfaghgcecacaa
open Go.RowKit
def stepO (was is c : Nat) : Option Nat := (Ieee.double.sub is was).bind fun s => (Ieee.double.div s c).bind fun t => Ieee.double.add was t
def smoothV (was is c : Nat) : Nat := match stepO was is c with
  | none => 9218868437227405312
  | some x => if rightB x = true then x else 0
def apartV (a b : Nat) : Nat := match Ieee.double.sub a b with
  | none => 0
  | some p => match Ieee.double.sub b a with
    | none => 0
    | some q => maxW p q
theorem fb_sub (x y : Nat) : floatBits .sub .f64 x y = Ieee.double.sub x y := rfl
theorem fb_add (x y : Nat) : floatBits .add .f64 x y = Ieee.double.add x y := rfl
theorem fb_quo (x y : Nat) : floatBits .quo .f64 x y = Ieee.double.div x y := rfl
theorem nan_rg (w : World) (x y : Nat) : 9218868437227405312 < rg (nanOf w x y) := isNan_true (nanOf_nan w x y).1
set_option maxHeartbeats 1600000 in
theorem smooth_any (was is c : Nat) (w : World) (hc : rg c < 9218868437227405312) (hc0 : 0 < rg c) :
    Calls Try.prog 53 #[.float .f64 was, .float .f64 is, .float .f64 c] w (Qt w (.float .f64 (smoothV was is c))) := by
  have qn : ∀ w a b, isNan (nanOf w a b) = true := fun w a b => (nanOf_nan w a b).1
  cases h1 : Ieee.double.sub is was with
  | none =>
    have hv : smoothV was is c = 9218868437227405312 := by unfold smoothV stepO; rw [h1]; rfl
    rw [hv]
    have q1 := fun w => run_float_nan (P := Try.prog) w .sub 22 is was (by simp) h1
    have q2 := fun w w' a b => run_float_nan (P := Try.prog) w .quo 22 (nanOf w' a b) c (by simp) (div_nan (.inl (nan_rg _ _ _)))
    have q3 := fun w w' a b => run_float_nan (P := Try.prog) w .add 22 was (nanOf w' a b) (by simp) (add_nan (.inr (nan_rg _ _ _)))
    clear h1 hv
    go_enter Try.func53, Try.ntmps53
    go_wp2_with (first | (go_at_call 36; refine (IsNaN_any _ _).mono ?_; rintro e w1 ⟨rfl, rfl⟩) | (go_at_call 16; refine (Inf_any _).mono ?_; rintro e w1 ⟨rfl, rfl⟩))
    go_ret
    exact ⟨rfl, 3, rfl⟩
  | some s =>
    obtain ⟨ns, ls⟩ := sub_ok h1
    obtain ⟨t, h2, nt, lt⟩ := div_ok (y := c) ns hc hc0
    have q1 := fun w => run_float_arith (P := Try.prog) w .sub 22 .f64 is was s h1
    have q2 := fun w => run_float_arith (P := Try.prog) w .quo 22 .f64 s c t h2
    cases h3 : Ieee.double.add was t with
    | none =>
      have hv : smoothV was is c = 9218868437227405312 := by
        have : stepO was is c = none := by unfold stepO; rw [h1, Option.bind_some, h2, Option.bind_some, h3]
        unfold smoothV; rw [this]
      rw [hv]
      have q3 := fun w => run_float_nan (P := Try.prog) w .add 22 was t (by simp) h3
      clear h1 h2 h3 hv
      go_enter Try.func53, Try.ntmps53
      go_wp2_with (first | (go_at_call 36; refine (IsNaN_any _ _).mono ?_; rintro e w1 ⟨rfl, rfl⟩) | (go_at_call 16; refine (Inf_any _).mono ?_; rintro e w1 ⟨rfl, rfl⟩))
      go_ret
      exact ⟨rfl, 1, rfl⟩
    | some x =>
      obtain ⟨nx, lx⟩ := add_ok h3
      have hv : smoothV was is c = if rightB x = true then x else 0 := by
        have : stepO was is c = some x := by unfold stepO; rw [h1, Option.bind_some, h2, Option.bind_some, h3]
        unfold smoothV; rw [this]
      rw [hv]
      have q3 := fun w => run_float_arith (P := Try.prog) w .add 22 .f64 was t x h3
      clear h1 h2 h3 hv
      cases hr : rightB x
      all_goals
        simp only [Bool.false_eq_true, if_false, if_true]
        go_enter Try.func53, Try.ntmps53
        go_wp2_with (first | (go_at_call 36; refine (IsNaN_any _ _).mono ?_; rintro e w1 ⟨rfl, rfl⟩) | (go_at_call 51; refine (right_any _ _ lx).mono ?_; rintro e w1 ⟨rfl, rfl⟩))
        go_ret
        exact ⟨rfl, 0, rfl⟩
theorem sub_both {a b : Nat} (ha : a ≤ 9218868437227405312) (hb : b ≤ 9218868437227405312) : (Ieee.double.sub a b = none ∧ Ieee.double.sub b a = none ∧ apartV a b = 0) ∨
    ∃ p q, Ieee.double.sub a b = some p ∧ Ieee.double.sub b a = some q ∧ isNan p = false ∧ isNan q = false ∧ p < 18446744073709551616 ∧ q < 18446744073709551616 ∧ apartV a b = maxW p q ∧ (rk p = rk q → p = 0 ∧ q = 0) := by
  rcases sub_right ha hb with ⟨h1, h2, h3⟩ | ⟨p, h1, h2, h3, h4, h5⟩
  · rcases sub_right hb ha with ⟨_, _, h6⟩ | ⟨q, h6, _⟩
    · exact .inl ⟨h3, h6, by unfold apartV; rw [h3]⟩
    · subst h1 h2
      rw [h3] at h6
      cases h6
  · rcases sub_right hb ha with ⟨g1, g2, g3⟩ | ⟨q, g1, g2, g3, g4, g5⟩
    · subst g1 g2
      rw [g3] at h1
      cases h1
    · refine .inr ⟨p, q, h1, g1, h2, g2, h3, g3, by unfold apartV; rw [h1, g1], fun e => ?_⟩
      have hneg : sr ((mg a : Int) - mg b) = - sr ((mg b : Int) - mg a) := by
        unfold sr
        have e1 : ((mg a : Int) - mg b).natAbs = ((mg b : Int) - mg a).natAbs := by omega
        rw [e1]
        by_cases z : (mg b : Int) - mg a = 0
        · have : rq ((mg b : Int) - mg a).natAbs 1 = 0 := by rw [z]; exact rq_zero (by omega)
          rw [this]
          split <;> split <;> rfl
        · split <;> split <;> omega
      have : rk p = 0 ∧ rk q = 0 := by
        by_cases ea : a = 9218868437227405312
        · by_cases eb : b = 9218868437227405312
          · subst ea eb
            rcases sub_right ha hb with ⟨_, _, h6⟩ | ⟨r, h6, _, _, h7, _⟩
            · rw [h6] at h1; cases h1
            · have h8 : Ieee.double.sub 9218868437227405312 9218868437227405312 = none := by
                rw [sub_add, add_inf_inf (by decide) (by decide)]
                decide
              rw [h8] at h1; cases h1
          · rw [if_pos ea] at h4
            rw [if_neg eb, if_pos ea] at g4
            omega
        · by_cases eb : b = 9218868437227405312
          · rw [if_neg ea, if_pos eb] at h4
            rw [if_pos eb] at g4
            omega
          · rw [if_neg ea, if_neg eb] at h4
            rw [if_neg eb, if_neg ea] at g4
            omega
      exact ⟨h5 this.1, g5 this.2⟩
set_option maxHeartbeats 1600000 in
theorem apart_any (a b : Nat) (w : World) (ha : a ≤ 9218868437227405312) (hb : b ≤ 9218868437227405312) :
    Calls Try.prog 54 #[.float .f64 a, .float .f64 b] w (Qt w (.float .f64 (apartV a b))) := by
  rcases sub_both ha hb with ⟨h1, h2, h3⟩ | ⟨p, q, h1, h2, np, nq, lp, lq, h3, _⟩
  · rw [h3]
    have q1 := fun w => run_float_nan (P := Try.prog) w .sub 22 a b (by simp) h1
    have q2 := fun w => run_float_nan (P := Try.prog) w .sub 22 b a (by simp) h2
    have q3 : ∀ w w' x y z u, isNan (pickW (nanOf w x y) (nanOf w' z u)) = true := fun w w' x y z u => by
      rw [pick_nan (nanOf_nan _ _ _).1 (nanOf_nan _ _ _).1 (nanOf_nan _ _ _).2 (nanOf_nan _ _ _).2]
      decide
    clear h1 h2 h3
    go_enter Try.func54, Try.ntmps54
    go_wp2_with (first | (go_at_call 63; refine (Max_any _ _ _).mono ?_; rintro e w1 ⟨rfl, rfl⟩) | (go_at_call 36; refine (IsNaN_any _ _).mono ?_; rintro e w1 ⟨rfl, rfl⟩))
    go_ret
    exact ⟨rfl, 2, rfl⟩
  · rw [h3]
    have q1 := fun w => run_float_arith (P := Try.prog) w .sub 22 .f64 a b p h1
    have q2 := fun w => run_float_arith (P := Try.prog) w .sub 22 .f64 b a q h2
    have hM : ∀ w, Calls Try.prog 63 #[.float .f64 p, .float .f64 q] w fun e w' => e = .returned (.float .f64 (maxW p q)) ∧ w = w' := fun w => by
      have := Max_any p q w
      rw [pick_num np nq lp lq] at this
      exact this
    have hm : isNan (maxW p q) = false := by unfold maxW; split <;> assumption
    obtain ⟨M, hMe⟩ : ∃ M, maxW p q = M := ⟨_, rfl⟩
    rw [hMe] at hM hm ⊢
    have HM := Lib.hid hM
    clear h1 h2 h3 hM hMe
    go_enter Try.func54, Try.ntmps54
    go_wp2_with (first | (go_at_call 63; refine (HM.out _).mono ?_; rintro e w1 ⟨rfl, rfl⟩) | (go_at_call 36; refine (IsNaN_any _ _).mono ?_; rintro e w1 ⟨rfl, rfl⟩))
    go_ret
    exact ⟨rfl, 0, rfl⟩
set_option maxHeartbeats 400000 in
theorem known_any (m v : Nat) (w : World) : Calls Try.prog 52 #[.agg #[.float .f64 m, .float .f64 v]] w fun e w' => e = .returned (.bool (!isNan m)) ∧ Below w.heap.size w w' := by
  go_enter Try.func52, Try.ntmps52
  go_wp2_with (refine (IsNaN_any _ _).mono ?_; rintro e w1 ⟨rfl, rfl⟩)
  go_ret
  exact ⟨rfl, (Below.refl _ _).alloc (Nat.le_refl _) _⟩
end Go.Proofs.Ytebfaghgcecacaa
