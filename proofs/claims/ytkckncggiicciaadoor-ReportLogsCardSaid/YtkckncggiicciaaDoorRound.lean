/-
  Rounding in plain Lean: a rational number to a rung of the doubles; it is monotone, and right at each rung.
-/
import Derived.Laws.FloatArith
namespace Go.Proofs.YtkckncggiicciaaDoor
/-- n / g, rounded to a whole number, half to even. -/
def rhe (n g : Nat) : Nat := n / g + (decide (g < 2 * (n % g)) || (decide (g = 2 * (n % g)) && decide (n / g % 2 = 1))).toNat
theorem bool_le (b : Bool) : b.toNat ≤ 1 := by cases b <;> decide
theorem rhe_le (n g : Nat) : n / g ≤ rhe n g ∧ rhe n g ≤ n / g + 1 := by
  unfold rhe
  have := bool_le (decide (g < 2 * (n % g)) || (decide (g = 2 * (n % g)) && decide (n / g % 2 = 1)))
  omega
theorem rhe_mono {n1 n2 g : Nat} (h : n1 ≤ n2) : rhe n1 g ≤ rhe n2 g := by
  have hq : n1 / g ≤ n2 / g := Nat.div_le_div_right h
  have h1 := rhe_le n1 g
  have h2 := rhe_le n2 g
  by_cases hlt : n1 / g < n2 / g
  · omega
  have he : n1 / g = n2 / g := by omega
  have e1 := Nat.div_add_mod n1 g
  have e2 := Nat.div_add_mod n2 g
  rw [he] at e1
  have hr : n1 % g ≤ n2 % g := by omega
  unfold rhe
  rw [he]
  generalize n2 / g = q
  generalize n1 % g = r1 at *
  generalize n2 % g = r2 at *
  have : (decide (g < 2 * r1) || (decide (g = 2 * r1) && decide (q % 2 = 1))).toNat ≤ (decide (g < 2 * r2) || (decide (g = 2 * r2) && decide (q % 2 = 1))).toNat := by
    by_cases a1 : g < 2 * r1
    · have a2 : g < 2 * r2 := by omega
      simp [a1, a2]
    · by_cases a2 : g < 2 * r2
      · simp only [a2, decide_true, Bool.true_or, Bool.toNat_true]
        exact bool_le _
      · by_cases a3 : g = 2 * r1
        · have a4 : g = 2 * r2 := by omega
          have a5 : r1 = r2 := by omega
          subst a5
          exact Nat.le_refl _
        · simp [a1, a3]
  omega
theorem rhe_scale {n g k : Nat} (hk : 0 < k) : rhe (n * k) (g * k) = rhe n g := by
  unfold rhe
  rw [Nat.mul_div_mul_right _ _ hk, Nat.mul_mod_mul_right]
  have e1 : (g * k < 2 * (n % g * k)) = (g < 2 * (n % g)) := by
    rw [← Nat.mul_assoc]
    exact propext (Nat.mul_lt_mul_right hk)
  have e2 : (g * k = 2 * (n % g * k)) = (g = 2 * (n % g)) := by
    rw [← Nat.mul_assoc]
    exact propext (Nat.mul_right_cancel_iff hk)
  simp only [e1, e2]
theorem rhe_whole (m : Nat) {g : Nat} (hg : 0 < g) : rhe (m * g) g = m := by
  unfold rhe
  rw [Nat.mul_div_cancel _ hg, Nat.mul_mod_left]
  have h2 : decide (g = 2 * 0) = false := by simp; omega
  simp [h2]
theorem rhe_zero (g : Nat) (hg : 0 < g) : rhe 0 g = 0 := by
  have := rhe_whole 0 hg
  rwa [Nat.zero_mul] at this
/-- The digits that are dropped of a number of so many least ones. -/
def lev (q : Nat) : Nat := q.log2 - 52
/-- The rung of N / D least numbers. -/
def rq (N D : Nat) : Nat := min (lev (N / D) * 4503599627370496 + rhe N (D * 2 ^ lev (N / D))) 9218868437227405312
theorem rq_le (N D : Nat) : rq N D ≤ 9218868437227405312 := Nat.min_le_right _ _
theorem rq_zero {D : Nat} (hD : 0 < D) : rq 0 D = 0 := by
  unfold rq lev
  rw [Nat.zero_div, Nat.log2_zero, rhe_zero _ (Nat.mul_pos hD (Nat.two_pow_pos _))]
  rfl
theorem log2_mono {a b : Nat} (h : a ≤ b) : a.log2 ≤ b.log2 := by
  by_cases h0 : a = 0
  · subst h0; simp
  · rw [Nat.le_log2 (by omega)]
    exact Nat.le_trans (Nat.log2_self_le h0) h
theorem lev_mono {a b : Nat} (h : a ≤ b) : lev a ≤ lev b := by
  have := log2_mono h
  unfold lev
  omega
/-- What is kept has at most 53 digits, and just so many where some are dropped. -/
theorem kept_bd (N D : Nat) : rhe N (D * 2 ^ lev (N / D)) ≤ 9007199254740992 ∧ (0 < lev (N / D) → 4503599627370496 ≤ rhe N (D * 2 ^ lev (N / D))) := by
  have h := rhe_le N (D * 2 ^ lev (N / D))
  have e : N / (D * 2 ^ lev (N / D)) = N / D / 2 ^ lev (N / D) := by rw [Nat.div_div_eq_div_mul]
  rw [e] at h
  generalize N / D = q at *
  have hlt : q / 2 ^ lev q < 9007199254740992 := by
    rw [Nat.div_lt_iff_lt_mul (Nat.two_pow_pos _)]
    have h1 : q < 2 ^ (q.log2 + 1) := Nat.lt_log2_self
    have h2 : 2 ^ (q.log2 + 1) ≤ 2 ^ (53 + lev q) := Nat.pow_le_pow_right (by omega) (by unfold lev; omega)
    rw [Nat.pow_add 2 53 (lev q)] at h2
    have h3 : (2 : Nat) ^ 53 = 9007199254740992 := rfl
    rw [h3] at h2
    exact Nat.lt_of_lt_of_le h1 h2
  refine ⟨Nat.le_trans h.2 hlt, fun hl => ?_⟩
  have hge : 4503599627370496 ≤ q / 2 ^ lev q := by
    rw [Nat.le_div_iff_mul_le (Nat.two_pow_pos _)]
    have h0 : q ≠ 0 := by
      rintro rfl
      simp [lev] at hl
    have h1 := Nat.log2_self_le h0
    have h2 : 2 ^ (52 + lev q) ≤ 2 ^ q.log2 := Nat.pow_le_pow_right (by omega) (by unfold lev at hl ⊢; omega)
    rw [Nat.pow_add 2 52 (lev q)] at h2
    have h3 : (2 : Nat) ^ 52 = 4503599627370496 := rfl
    rw [h3] at h2
    exact Nat.le_trans h2 h1
  exact Nat.le_trans hge h.1
theorem top_lt (l1 l2 k1 k2 i : Nat) (hl : l1 < l2) (h1 : k1 ≤ 9007199254740992) (h2 : 4503599627370496 ≤ k2) : min (l1 * 4503599627370496 + k1) i ≤ min (l2 * 4503599627370496 + k2) i := by omega
theorem top_le (l k1 k2 i : Nat) (h : k1 ≤ k2) : min (l * 4503599627370496 + k1) i ≤ min (l * 4503599627370496 + k2) i := by omega
theorem rq_mono_same {N1 N2 D : Nat} (h : N1 ≤ N2) : rq N1 D ≤ rq N2 D := by
  have hq : N1 / D ≤ N2 / D := Nat.div_le_div_right h
  have hl := lev_mono hq
  have k1 := kept_bd N1 D
  have k2 := kept_bd N2 D
  unfold rq
  by_cases hlt : lev (N1 / D) < lev (N2 / D)
  · exact top_lt _ _ _ _ _ hlt k1.1 (k2.2 (Nat.lt_of_le_of_lt (Nat.zero_le _) hlt))
  · have he : lev (N1 / D) = lev (N2 / D) := Nat.le_antisymm hl (Nat.le_of_not_lt hlt)
    rw [he]
    exact top_le _ _ _ _ (rhe_mono h)
theorem rq_scale {N D k : Nat} (hk : 0 < k) : rq (N * k) (D * k) = rq N D := by
  unfold rq
  rw [Nat.mul_div_mul_right _ _ hk, Nat.mul_right_comm D k, rhe_scale hk]
theorem rq_mono {N1 D1 N2 D2 : Nat} (h1 : 0 < D1) (h2 : 0 < D2) (h : N1 * D2 ≤ N2 * D1) : rq N1 D1 ≤ rq N2 D2 := by
  rw [← rq_scale (N := N1) (D := D1) h2, ← rq_scale (N := N2) (D := D2) h1, Nat.mul_comm D2 D1]
  exact rq_mono_same h
theorem rq_eq {N1 D1 N2 D2 : Nat} (h1 : 0 < D1) (h2 : 0 < D2) (h : N1 * D2 = N2 * D1) : rq N1 D1 = rq N2 D2 :=
  Nat.le_antisymm (rq_mono h1 h2 (Nat.le_of_eq h)) (rq_mono h2 h1 (Nat.le_of_eq h.symm))
/-- How many least numbers a rung stands for. -/
def mg (r : Nat) : Nat := if r < 4503599627370496 then r else (4503599627370496 + r % 4503599627370496) * 2 ^ (r / 4503599627370496 - 1)
theorem rq_mg {r D : Nat} (hD : 0 < D) (hr : r ≤ 9218868437227405312) : rq (mg r * D) D = r := by
  by_cases h : r < 9007199254740992
  · have e : mg r = r := by
      unfold mg
      split
      · rfl
      · have : r / 4503599627370496 = 1 := by omega
        rw [this]
        simp
        omega
    rw [e]
    unfold rq
    rw [Nat.mul_div_cancel _ hD]
    have hl : lev r = 0 := by
      unfold lev
      by_cases h0 : r = 0
      · subst h0; simp
      · have : r.log2 < 53 := (Nat.log2_lt h0).2 h
        omega
    rw [hl, Nat.pow_zero, Nat.mul_one, rhe_whole _ hD]
    omega
  · obtain ⟨e, he⟩ : ∃ e, r / 4503599627370496 = e + 2 := ⟨r / 4503599627370496 - 2, by omega⟩
    obtain ⟨m, hm⟩ : ∃ m, r % 4503599627370496 = m := ⟨_, rfl⟩
    have hm2 : m < 4503599627370496 := by omega
    have hmg : mg r = (4503599627370496 + m) * 2 ^ (e + 1) := by
      unfold mg
      rw [if_neg (by omega), he, hm]
      rfl
    have hlog : ((4503599627370496 + m) * 2 ^ (e + 1)).log2 = 52 + (e + 1) := by
      have h0 : (4503599627370496 + m) * 2 ^ (e + 1) ≠ 0 := Nat.ne_of_gt (Nat.mul_pos (by omega) (Nat.two_pow_pos _))
      apply Nat.le_antisymm
      · have : ((4503599627370496 + m) * 2 ^ (e + 1)).log2 < 52 + (e + 1) + 1 := by
          rw [Nat.log2_lt h0, show 52 + (e + 1) + 1 = 53 + (e + 1) by omega, Nat.pow_add 2 53 (e + 1)]
          exact Nat.mul_lt_mul_of_pos_right (by show _ < 9007199254740992; omega) (Nat.two_pow_pos _)
        omega
      · rw [Nat.le_log2 h0, Nat.pow_add 2 52 (e + 1)]
        exact Nat.mul_le_mul_right _ (by show 4503599627370496 ≤ _; omega)
    rw [hmg]
    unfold rq
    rw [Nat.mul_div_cancel _ hD]
    have hl : lev ((4503599627370496 + m) * 2 ^ (e + 1)) = e + 1 := by
      unfold lev
      rw [hlog]
      omega
    rw [hl, Nat.mul_assoc, Nat.mul_comm (2 ^ (e + 1)) D, rhe_whole _ (Nat.mul_pos hD (Nat.two_pow_pos _))]
    omega
theorem rq_mg1 {r : Nat} (hr : r ≤ 9218868437227405312) : rq (mg r) 1 = r := by
  have := rq_mg (D := 1) (by omega) hr
  rwa [Nat.mul_one] at this
theorem mg_zero : mg 0 = 0 := rfl
theorem mg_lt {r s : Nat} (hs : s ≤ 9218868437227405312) (h : r < s) : mg r < mg s := by
  apply Nat.lt_of_not_le
  intro hle
  have := rq_mono_same (D := 1) hle
  rw [rq_mg1 hs, rq_mg1 (by omega)] at this
  omega
theorem mg_le {r s : Nat} (hs : s ≤ 9218868437227405312) (h : r ≤ s) : mg r ≤ mg s := by
  rcases Nat.lt_or_ge r s with h1 | h1
  · exact Nat.le_of_lt (mg_lt hs h1)
  · obtain rfl : r = s := by omega
    exact Nat.le_refl _
theorem mg_pos {r : Nat} (hr : r ≤ 9218868437227405312) (h : 0 < r) : 0 < mg r := mg_lt hr h
/-- A bound by a rung stays one. -/
theorem rq_le_of {N D r : Nat} (hD : 0 < D) (hr : r ≤ 9218868437227405312) (h : N ≤ mg r * D) : rq N D ≤ r := by
  have := rq_mono_same (D := D) h
  rwa [rq_mg hD hr] at this
theorem le_rq_of {N D r : Nat} (hD : 0 < D) (hr : r ≤ 9218868437227405312) (h : mg r * D ≤ N) : r ≤ rq N D := by
  have := rq_mono_same (D := D) h
  rwa [rq_mg hD hr] at this
/-! ### The model's rounding -/
theorem cut_even (neg : Bool) (n drop : Nat) : Ieee.Toward.even.cut neg n drop = rhe n (2 ^ drop) := by
  unfold Ieee.Toward.cut
  simp only [Nat.one_shiftLeft]
  by_cases h : drop ≤ n.log2 + 2
  · rw [Nat.min_eq_left h]
    unfold rhe
    congr 2
  · rw [Nat.min_eq_right (by omega)]
    have hn : n < 2 ^ (n.log2 + 1) := Nat.lt_log2_self
    have h2 : 2 ^ (n.log2 + 2) = 2 * 2 ^ (n.log2 + 1) := by rw [Nat.pow_succ, Nat.mul_comm]
    have h3 : 2 ^ (n.log2 + 2) ≤ 2 ^ drop := Nat.pow_le_pow_right (by omega) (by omega)
    unfold rhe
    rw [Nat.div_eq_of_lt (by omega : n < 2 ^ (n.log2 + 2)), Nat.div_eq_of_lt (by omega : n < 2 ^ drop), Nat.mod_eq_of_lt (by omega : n < 2 ^ (n.log2 + 2)), Nat.mod_eq_of_lt (by omega : n < 2 ^ drop)]
    have a1 : ¬ 2 ^ (n.log2 + 2) < 2 * n := by omega
    have a2 : ¬ 2 ^ drop < 2 * n := by omega
    simp [a1, a2]
theorem nearest_eq (neg : Bool) (mag : Nat) (place : Int) (a c : Nat) (h : place + 1074 = (a : Int) - c) : Ieee.double.nearest neg mag place = Ieee.double.word neg (rq (mag * 2 ^ a) (2 ^ c)) := by
  unfold Ieee.Format.nearest
  by_cases h0 : mag = 0
  · rw [if_pos h0, h0, Nat.zero_mul, rq_zero (Nat.two_pow_pos _)]
  rw [if_neg h0]
  dsimp only
  have hlp : Ieee.double.leastPlace = -1074 := rfl
  have hbi : Ieee.double.binade = 4503599627370496 := rfl
  have hir : Ieee.double.infRung = 9218868437227405312 := rfl
  have hfb : (Ieee.double.fractionBits : Int) = 52 := rfl
  rw [hlp, hbi, hir, hfb, cut_even, Nat.shiftLeft_eq]
  have hlev : lev (mag * 2 ^ a / 2 ^ c) = mag.log2 + a - c - 52 := by
    by_cases hc : c ≤ mag.log2 + a
    · have : (mag * 2 ^ a / 2 ^ c).log2 = mag.log2 + a - c := by
        have hle : 2 ^ (mag.log2 + a - c) ≤ mag * 2 ^ a / 2 ^ c := by
          rw [Nat.le_div_iff_mul_le (Nat.two_pow_pos _), ← Nat.pow_add, Nat.sub_add_cancel hc, Nat.pow_add]
          exact Nat.mul_le_mul_right _ (Nat.log2_self_le h0)
        have hlt : mag * 2 ^ a / 2 ^ c < 2 ^ (mag.log2 + a - c + 1) := by
          rw [Nat.div_lt_iff_lt_mul (Nat.two_pow_pos _), ← Nat.pow_add, show mag.log2 + a - c + 1 + c = mag.log2 + 1 + a by omega, Nat.pow_add]
          exact Nat.mul_lt_mul_of_pos_right Nat.lt_log2_self (Nat.two_pow_pos _)
        have hne : mag * 2 ^ a / 2 ^ c ≠ 0 := by
          have := Nat.two_pow_pos (mag.log2 + a - c)
          omega
        have h1 := (Nat.le_log2 hne).2 hle
        have h2 := (Nat.log2_lt hne).2 hlt
        omega
      unfold lev
      rw [this]
    · have hlt : mag * 2 ^ a < 2 ^ c := by
        have h1 : mag * 2 ^ a < 2 ^ (mag.log2 + 1 + a) := by
          rw [Nat.pow_add]
          exact Nat.mul_lt_mul_of_pos_right Nat.lt_log2_self (Nat.two_pow_pos _)
        exact Nat.lt_of_lt_of_le h1 (Nat.pow_le_pow_right (by omega) (by omega))
      rw [Nat.div_eq_of_lt hlt]
      simp [lev]
      omega
  obtain ⟨last, hlast⟩ : ∃ last : Int, max (place + (mag.log2 : Int) - 52) (-1074) = last := ⟨_, rfl⟩
  rw [hlast]
  have hL : (last - -1074).toNat = lev (mag * 2 ^ a / 2 ^ c) := by rw [hlev]; omega
  have hL0 : 0 ≤ last + 1074 := by omega
  unfold rq
  rw [hL]
  have hk : rhe (mag * 2 ^ (place - last).toNat) (2 ^ (last - place).toNat) = rhe (mag * 2 ^ a) (2 ^ c * 2 ^ lev (mag * 2 ^ a / 2 ^ c)) := by
    rw [← Nat.pow_add, ← hL]
    have e1 : a = (place - last).toNat + (a - (place - last).toNat) := by omega
    have e2 : c + (last - -1074).toNat = (last - place).toNat + (a - (place - last).toNat) := by omega
    rw [e2]
    conv => rhs; arg 1; rw [e1, Nat.pow_add, ← Nat.mul_assoc]
    rw [Nat.pow_add 2 (last - place).toNat, rhe_scale (Nat.two_pow_pos _)]
  rw [hk]
end Go.Proofs.YtkckncggiicciaaDoor
