/-
  The walks of rtt.Check, rtt.New, skerryref12.New and pulse.Doubt.
-/
import Derived.Test.YtebfaghgcecacaaMath0
import Derived.Test.YtebfaghgcecacaaFright
import Derived.Deep.LoopGhost
namespace Go.Proofs.Ytebfaghgcecacaa
open Go.RowKit
theorem bcell {W w1 : World} (hb : Below W.heap.size W w1) : (∀ b o, b < W.heap.size → w1.cell? ⟨b, o, none⟩ = W.cell? ⟨b, o, none⟩) ∧ (∀ b o, b < W.heap.size → w1.frozen? ⟨b, o, none⟩ = W.frozen? ⟨b, o, none⟩) :=
  ⟨fun b o h => hb.cell (p := ⟨b, o, none⟩) h, fun b o h => hb.frozen (p := ⟨b, o, none⟩) h⟩
/-- Is an estimate right? -/
def chk (m v : Nat) : Bool := (isNan m && isNan v) || (rightB m && rightB v)
theorem not_right {x : Nat} (h : isNan x = true) : rightB x = false := by unfold rightB; rw [h]; rfl
set_option maxHeartbeats 1600000 in
theorem Check_any (m v : Nat) (w : World) (hm : m < 18446744073709551616) (hv : v < 18446744073709551616) :
    Calls Try.prog 28 #[.agg #[.float .f64 m, .float .f64 v]] w fun e w' => e = .returned (.int .i64 (if chk m v = true then 0 else 1)) ∧ Below w.heap.size w w' := by
  unfold chk
  cases nm : isNan m
  case' true => have rm := not_right nm
  case' false => cases rm : rightB m
  all_goals cases nv : isNan v
  case' true.true | false.false.true | false.true.true => have rv := not_right nv
  case' true.false | false.false.false | false.true.false => cases rv : rightB v
  all_goals
    simp only [rm, rv, Bool.and_true, Bool.and_false, Bool.or_true, Bool.or_false, if_true, Bool.false_eq_true, if_false]
    go_enter Try.func28, Try.ntmps28
    go_wp2_with (first | (go_at_call 36; refine (IsNaN_any _ _).mono ?_; rintro e w1 ⟨rfl, rfl⟩) | (go_at_call 51; refine (right_any _ _ (by assumption)).mono ?_; rintro e w1 ⟨rfl, rfl⟩))
    go_ret
    exact ⟨rfl, (Below.refl _ _).alloc (Nat.le_refl _) _⟩
/-- What is usual: the mean, how it varies, and one. -/
def usual (m v : Nat) : Nat := (Ieee.double.add ((Ieee.double.add m v).getD 0) 4607182418800017408).getD 0
def doubt (s : Int) (m v : Nat) : Nat :=
  if s ≤ 0 then 0 else if 12 ≤ s then 9218868437227405312 else dv (fi s.toNat) (if isNan m = true then 4622945017495814144 else usual m v)
theorem usual_eq {m v : Nat} (hm : m ≤ 9218868437227405312) (hv : v ≤ 9218868437227405312) :
    ∃ u, Ieee.double.add m v = some u ∧ u ≤ 9218868437227405312 ∧ Ieee.double.add u 4607182418800017408 = some (usual m v) ∧ usual m v ≤ 9218868437227405312 ∧ 0 < usual m v := by
  obtain ⟨u, h1, h2, h3, h4⟩ := add_right hm hv
  obtain ⟨r, k1, k2, k3, k4⟩ := add_right h2 (show 4607182418800017408 ≤ 9218868437227405312 by omega)
  have e : usual m v = r := by unfold usual; rw [h1, Option.getD_some, k1, Option.getD_some]
  rw [e]
  exact ⟨u, h1, h2, k1, k2, by omega⟩
/-- The errno of Doubt. -/
def DoubtPost (s : Int) (m v : Nat) (w : World) (e : Ending) (w' : World) : Prop :=
  e = .returned (if chk m v = true then .tuple #[.float .f64 (doubt s m v), .int .i64 0] else .tuple #[.float .f64 0, .int .i64 1]) ∧ Below w.heap.size w w'
set_option maxHeartbeats 1600000 in
theorem Doubt_no (s : Int) (m v : Nat) (w : World) (hm : m < 18446744073709551616) (hv : v < 18446744073709551616) (hc : chk m v = false) :
    Calls Try.prog 12 #[.int .i64 s, .agg #[.float .f64 m, .float .f64 v]] w (DoubtPost s m v w) := by
  have HP : Hid (∀ w', Below w.heap.size w w' → DoubtPost s m v w (.returned (.tuple #[.float .f64 0, .int .i64 1])) w') := by
    intro w' hb
    unfold DoubtPost
    rw [hc]
    exact ⟨rfl, hb⟩
  have hck : ∀ W, Calls Try.prog 28 #[.agg #[.float .f64 m, .float .f64 v]] W fun e w' => e = .returned (.int .i64 1) ∧ Below W.heap.size W w' := by
    intro W
    have := Check_any m v W hm hv
    rw [hc] at this
    exact this
  have Hck := Lib.hid hck
  clear hck hc
  go_enter Try.func12, Try.ntmps12
  go_wp2_with fail
  refine (Hck.out _).mono ?_
  rintro e w1 ⟨rfl, hb1⟩
  go_wp2_with fail
  go_ret2
  exact HP.out _ (((Below.refl _ _).alloc (Nat.le_refl _) _).trans (hb1.mono (by simp)))
set_option maxHeartbeats 3200000 in
theorem Doubt_yes (s : Int) (m v : Nat) (w : World) (hs : -9223372036854775808 ≤ s ∧ s ≤ 9223372036854775807) (hm : m < 18446744073709551616) (hv : v < 18446744073709551616) (hc : chk m v = true) :
    Calls Try.prog 12 #[.int .i64 s, .agg #[.float .f64 m, .float .f64 v]] w (DoubtPost s m v w) := by
  have HP : Hid (∀ w', Below w.heap.size w w' → DoubtPost s m v w (.returned (.tuple #[.float .f64 (doubt s m v), .int .i64 0])) w') := by
    intro w' hb
    unfold DoubtPost
    rw [hc]
    exact ⟨rfl, hb⟩
  have hck : ∀ W, Calls Try.prog 28 #[.agg #[.float .f64 m, .float .f64 v]] W fun e w' => e = .returned (.int .i64 0) ∧ Below W.heap.size W w' := by
    intro W
    have := Check_any m v W hm hv
    rw [hc] at this
    exact this
  have Hck := Lib.hid hck
  have Hc := Lib.hid hc
  clear hck hc
  by_cases h0 : s ≤ 0
  · have HD : Hid (doubt s m v = 0) := by unfold Hid doubt; rw [if_pos h0]
    go_enter Try.func12, Try.ntmps12
    go_wp2_with fail
    refine (Hck.out _).mono ?_
    rintro e w1 ⟨rfl, hb1⟩
    go_wp2_with fail
    go_ret2
    have := HP.out _ (((Below.refl _ _).alloc (Nat.le_refl _) _).trans (hb1.mono (by simp)))
    rw [HD.out] at this
    exact this
  by_cases h12 : 12 ≤ s
  · have HD : Hid (doubt s m v = 9218868437227405312) := by unfold Hid doubt; rw [if_neg h0, if_pos h12]
    go_enter Try.func12, Try.ntmps12
    go_wp2_with fail
    refine (Hck.out _).mono ?_
    rintro e w1 ⟨rfl, hb1⟩
    go_wp2_with (refine (Inf_any _).mono ?_; rintro e w2 ⟨rfl, rfl⟩)
    go_ret2
    have := HP.out _ (((Below.refl _ _).alloc (Nat.le_refl _) _).trans (hb1.mono (by simp)))
    rw [HD.out] at this
    exact this
  obtain ⟨n, rfl⟩ := Int.eq_ofNat_of_zero_le (show 0 ≤ s by omega)
  have hfs := fi_eq n
  have hfn : fi n < 9218868437227405312 := by have := fi_bd (n := n) (by omega); omega
  cases nm : isNan m
  · have hr : rightB m = true ∧ rightB v = true := by
      have := Hc.out
      unfold chk at this
      rw [nm] at this
      simpa using this
    have hmle := right_le hr.1 hm
    have hvle := right_le hr.2 hv
    obtain ⟨u, k1, k2, k3, k4, k5⟩ := usual_eq hmle hvle
    have hd := div_right hfn k4 k5
    have HD : Hid (doubt n m v = dv (fi n) (usual m v)) := by
      unfold Hid doubt
      rw [if_neg h0, if_neg h12, nm, Int.toNat_natCast]
      rfl
    have Hn : Hid (isNan (dv (fi n) (usual m v)) = false) := (right_sg (right_small (dv_le _ _))).1
    have q1 := fun w => run_float_arith (P := Try.prog) w .add 22 .f64 m v u k1
    have q2 := fun w => run_float_arith (P := Try.prog) w .add 22 .f64 u 4607182418800017408 _ k3
    have q3 := fun w => run_float_arith (P := Try.prog) w .quo 22 .f64 (fi n) (usual m v) _ hd
    obtain ⟨D, hD⟩ : ∃ D, dv (fi n) (usual m v) = D := ⟨_, rfl⟩
    rw [hD] at q3 HD Hn
    have Hnn := Hn.out
    clear hD hd k1 k3 k2 k4 k5 hr hmle hvle hfn
    go_enter Try.func12, Try.ntmps12
    go_wp2_with fail
    refine (Hck.out _).mono ?_
    rintro e w1 ⟨rfl, hb1⟩
    obtain ⟨hcc, hff⟩ := bcell hb1
    go_wp2_with (refine (IsNaN_any _ _).mono ?_; rintro e w2 ⟨rfl, rfl⟩)
    go_ret2
    have := HP.out _ (((Below.refl _ _).alloc (Nat.le_refl _) _).trans (hb1.mono (by simp)))
    rw [HD.out] at this
    exact this
  · have hd := div_right hfn (show 4622945017495814144 ≤ 9218868437227405312 by omega) (by omega)
    have HD : Hid (doubt n m v = dv (fi n) 4622945017495814144) := by
      unfold Hid doubt
      rw [if_neg h0, if_neg h12, nm, Int.toNat_natCast]
      rfl
    have q3 := fun w => run_float_arith (P := Try.prog) w .quo 22 .f64 (fi n) 4622945017495814144 _ hd
    obtain ⟨D, hD⟩ : ∃ D, dv (fi n) 4622945017495814144 = D := ⟨_, rfl⟩
    rw [hD] at q3 HD
    clear hD hd hfn
    go_enter Try.func12, Try.ntmps12
    go_wp2_with fail
    refine (Hck.out _).mono ?_
    rintro e w1 ⟨rfl, hb1⟩
    obtain ⟨hcc, hff⟩ := bcell hb1
    go_wp2_with (refine (IsNaN_any _ _).mono ?_; rintro e w2 ⟨rfl, rfl⟩)
    go_ret2
    have := HP.out _ (((Below.refl _ _).alloc (Nat.le_refl _) _).trans (hb1.mono (by simp)))
    rw [HD.out] at this
    exact this
end Go.Proofs.Ytebfaghgcecacaa
