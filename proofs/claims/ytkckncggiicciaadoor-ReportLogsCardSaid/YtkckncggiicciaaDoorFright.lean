/-
  Sums and quotients of floats from nought to infinity; floats of whole numbers.
-/
import Derived.Test.YtkckncggiicciaaDoorNum
namespace Go.Proofs.YtkckncggiicciaaDoor
theorem right_sg {x : Nat} (h : rightB x = true) : isNan x = false ∧ sg x = false ∧ rg x ≤ 9218868437227405312 := by
  unfold rightB at h
  simp at h
  exact ⟨h.1, h.2, isNan_false h.1⟩
theorem right_mk {x : Nat} (h1 : sg x = false) (h2 : rg x ≤ 9218868437227405312) : rightB x = true := by
  unfold rightB isNan
  rw [h1]
  simp
  omega
theorem rg_small {x : Nat} (h : x ≤ 9218868437227405312) : rg x = x ∧ sg x = false := by
  unfold rg sg
  have : x / 9223372036854775808 = 0 := by omega
  rw [this]
  exact ⟨by omega, rfl⟩
theorem right_self {x : Nat} (h : rightB x = true) (hx : x < 18446744073709551616) : rg x = x := by
  obtain ⟨_, h1, h2⟩ := right_sg h
  have := wd_self hx
  rw [h1] at this
  exact this
theorem right_small {x : Nat} (h : x ≤ 9218868437227405312) : rightB x = true := right_mk (rg_small h).2 (by rw [(rg_small h).1]; exact h)
theorem right_le {x : Nat} (h : rightB x = true) (hx : x < 18446744073709551616) : x ≤ 9218868437227405312 := by
  have := right_self h hx
  have := (right_sg h).2.2
  omega
theorem wd_false (r : Nat) : wd false r = r := rfl
/-- A sum of two such: it is no less than either. -/
theorem add_right {x y : Nat} (hx : x ≤ 9218868437227405312) (hy : y ≤ 9218868437227405312) :
    ∃ r, Ieee.double.add x y = some r ∧ r ≤ 9218868437227405312 ∧ x ≤ r ∧ y ≤ r := by
  obtain ⟨rx, sx⟩ := rg_small hx
  obtain ⟨ry, sy⟩ := rg_small hy
  by_cases fx : rg x < 9218868437227405312
  · by_cases fy : rg y < 9218868437227405312
    · refine ⟨_, add_fin fx fy, ?_⟩
      have ex : sv x = (mg x : Int) := by unfold sv; rw [sx, rx]; rfl
      have ey : sv y = (mg y : Int) := by unfold sv; rw [sy, ry]; rfl
      have e : (sv x + sv y).natAbs = mg x + mg y := by rw [ex, ey]; omega
      have hs : (if sv x + sv y = 0 then sg x && sg y else decide (sv x + sv y < 0)) = false := by
        rw [sx]
        split
        · rfl
        · simp; omega
      rw [hs, e, wd_false]
      have h1 := le_rq_of (N := mg x + mg y) (D := 1) (r := x) (by omega) hx (by omega)
      have h2 := le_rq_of (N := mg x + mg y) (D := 1) (r := y) (by omega) hy (by omega)
      have h3 := rq_le (mg x + mg y) 1
      exact ⟨h3, h1, h2⟩
    · refine ⟨_, add_fin_inf fx (by omega), ?_⟩
      rw [sy, wd_false]
      exact ⟨Nat.le_refl _, hx, hy⟩
  · by_cases fy : rg y < 9218868437227405312
    · refine ⟨_, add_inf_fin (by omega) fy, ?_⟩
      rw [sx, wd_false]
      exact ⟨Nat.le_refl _, hx, hy⟩
    · refine ⟨_, by rw [add_inf_inf (by omega) (by omega), if_pos (sx.trans sy.symm)], ?_⟩
      rw [sx, wd_false]
      exact ⟨Nat.le_refl _, hx, hy⟩
/-- The rung of a quotient. -/
def dv (x y : Nat) : Nat := if y = 9218868437227405312 then 0 else rq (mg x * U1) (mg y)
theorem dv_le (x y : Nat) : dv x y ≤ 9218868437227405312 := by
  unfold dv
  split
  · omega
  · exact rq_le _ _
theorem dv_mono {x x' y : Nat} (hx' : x' ≤ 9218868437227405312) (h : x ≤ x') : dv x y ≤ dv x' y := by
  unfold dv
  split
  · omega
  · exact rq_mono_same (Nat.mul_le_mul_right _ (mg_le hx' h))
theorem div_right {x y : Nat} (hx : x < 9218868437227405312) (hy : y ≤ 9218868437227405312) (h0 : 0 < y) : Ieee.double.div x y = some (dv x y) := by
  obtain ⟨rx, sx⟩ := rg_small (Nat.le_of_lt hx)
  obtain ⟨ry, sy⟩ := rg_small hy
  by_cases fy : rg y < 9218868437227405312
  · rw [div_fin (by omega) fy (by omega), sx, sy, rx, ry]
    unfold dv
    rw [if_neg (by omega), Bool.xor_self, wd_false]
  · rw [div_fin_inf (by omega) (by omega), sx, sy]
    unfold dv
    rw [if_pos (by omega), Bool.xor_self, wd_false]
/-- The float of a whole number from 0. -/
def fi (n : Nat) : Nat := rq (n * U1) 1
theorem fi_eq (n : Nat) : Go.floatOfInt .f64 (n : Int) = fi n := by
  rw [int_float]
  have : decide ((n : Int) < 0) = false := by simp
  rw [this, wd_false, Int.natAbs_natCast]
  unfold fi
  exact Eq.refl _
theorem fi_mono {a b : Nat} (h : a ≤ b) : fi a ≤ fi b := rq_mono_same (Nat.mul_le_mul_right _ h)
theorem mg_top : mg 4890909195324358656 = 9223372036854775808 * U1 := by decide +kernel
theorem mg_one : mg 4607182418800017408 = U1 := by decide +kernel
theorem fi_one : fi 1 = 4607182418800017408 := by
  have := rq_mg1 (r := 4607182418800017408) (by omega)
  rw [mg_one] at this
  unfold fi
  rw [Nat.one_mul]
  exact this
theorem fi_top : fi 9223372036854775808 = 4890909195324358656 := by
  have := rq_mg1 (r := 4890909195324358656) (by omega)
  rw [mg_top] at this
  exact this
theorem fi_bd {n : Nat} (h : n ≤ 9223372036854775808) : fi n ≤ 4890909195324358656 := by
  have := fi_mono h
  rwa [fi_top] at this
theorem fi_pos {n : Nat} (h : 1 ≤ n) : 4607182418800017408 ≤ fi n := by
  have := fi_mono h
  rwa [fi_one] at this
theorem fi_zero : fi 0 = 0 := by
  unfold fi
  rw [Nat.zero_mul]
  exact rq_zero (by omega)
end Go.Proofs.YtkckncggiicciaaDoor
