/-
  Products, quotients, whole numbers, and rounding up: what the model's words are.
-/
import Derived.Test.YtkckncggiicciaaDoorFloat
namespace Go.Proofs.YtkckncggiicciaaDoor
/-- So many least numbers are one. -/
def K1 : Nat := 1074
theorem K1_eq : (K1 : Int) = 1074 := rfl
def U1 : Nat := 2 ^ K1
theorem U1_pos : 0 < U1 := Nat.two_pow_pos _
theorem mul_fin {x y : Nat} (hx : rg x < 9218868437227405312) (hy : rg y < 9218868437227405312) :
    Ieee.double.mul x y = some (wd (sg x ^^ sg y) (rq (mg (rg x) * mg (rg y)) U1)) := by
  obtain ⟨m, p, ex, hm⟩ := read_num hx
  obtain ⟨n, q, ey, hn⟩ := read_num hy
  unfold Ieee.Format.mul
  rw [ex, ey]
  unfold Ieee.Datum.product
  simp only [Option.map_some, Ieee.Format.write]
  rw [nearest_eq _ _ _ (p + q) K1 (by have := K1_eq; omega), word_wd, ← hm, ← hn]
  have e : m * n * 2 ^ (p + q) = m * 2 ^ p * (n * 2 ^ q) := by
    rw [Nat.pow_add, Nat.mul_assoc, Nat.mul_assoc, Nat.mul_left_comm n]
  rw [e]
  rfl
theorem mul_inf_fin {x y : Nat} (hx : rg x = 9218868437227405312) (hy : rg y < 9218868437227405312) (h0 : 0 < rg y) : Ieee.double.mul y x = some (wd (sg y ^^ sg x) 9218868437227405312) := by
  obtain ⟨n, q, ey, hn⟩ := read_num hy
  have hn0 : n ≠ 0 := by
    rintro rfl
    rw [Nat.zero_mul] at hn
    have := mg_pos (r := rg y) (by omega) h0
    omega
  unfold Ieee.Format.mul
  rw [read_inf hx, ey]
  unfold Ieee.Datum.product
  simp only [if_neg hn0, Option.map_some]
  rw [Bool.xor_comm]
  rfl
/-- A digit that tells whether anything is left over serves for the rest. -/
theorem sticky (dv n h : Nat) (hn : 0 < n) : rhe (2 * (dv / n) + (dv % n != 0).toNat) (4 * h) = rhe (2 * dv) (n * (4 * h)) := by
  by_cases h0 : h = 0
  · subst h0
    simp [rhe]
    have e := Nat.div_add_mod dv n
    have hlt := Nat.mod_lt dv hn
    by_cases hz : dv = 0
    · subst hz; simp
    · have h1 : (decide (0 < 2 * (2 * dv))) = true := by simp; omega
      have h2 : (decide (0 < 2 * (2 * (dv / n) + (dv % n != 0).toNat))) = true := by
        by_cases hr : dv % n = 0
        · have : 0 < dv / n := by
            rcases Nat.eq_zero_or_pos (dv / n) with h | h
            · rw [h, Nat.mul_zero] at e; omega
            · exact h
          simp; omega
        · have : (dv % n != 0) = true := by simpa using hr
          rw [this]; simp
      have h3 : decide (0 < dv) = true := by simp; omega
      simp_all
  have hh : 0 < h := by omega
  obtain ⟨A, hA⟩ : ∃ A, dv / n = A := ⟨_, rfl⟩
  obtain ⟨R, hR⟩ : ∃ R, dv % n = R := ⟨_, rfl⟩
  have hRn : R < n := by rw [← hR]; exact Nat.mod_lt _ hn
  have hdv : dv = n * A + R := by rw [← hA, ← hR]; exact (Nat.div_add_mod dv n).symm
  obtain ⟨B, hB⟩ : ∃ B, A / (2 * h) = B := ⟨_, rfl⟩
  obtain ⟨C, hC⟩ : ∃ C, A % (2 * h) = C := ⟨_, rfl⟩
  have hC2 : C < 2 * h := by rw [← hC]; exact Nat.mod_lt _ (by omega)
  have hAe : A = 2 * h * B + C := by rw [← hB, ← hC]; exact (Nat.div_add_mod A (2 * h)).symm
  rw [hA, hR]
  have hs := bool_le (R != 0)
  obtain ⟨S, hS⟩ : ∃ S, (R != 0).toNat = S := ⟨_, rfl⟩
  have hS0 : S = 0 ↔ R = 0 := by rw [← hS]; by_cases h : R = 0 <;> simp [h]
  rw [hS] at hs ⊢
  -- the left side
  have l1 : 2 * A + S = (2 * C + S) + 4 * h * B := by
    have : 2 * (2 * h * B) = 4 * h * B := by rw [← Nat.mul_assoc, ← Nat.mul_assoc]
    rw [hAe, Nat.mul_add, this]; omega
  have l2 : (2 * A + S) / (4 * h) = B := by
    rw [l1, Nat.add_mul_div_left _ _ (by omega), Nat.div_eq_of_lt (by omega), Nat.zero_add]
  have l3 : (2 * A + S) % (4 * h) = 2 * C + S := by
    rw [l1, Nat.add_mul_mod_self_left, Nat.mod_eq_of_lt (by omega)]
  -- the right side
  have hnC : n * C + R < n * (2 * h) := by
    have : n * C + n ≤ n * (2 * h) := by rw [← Nat.mul_succ]; exact Nat.mul_le_mul_left _ hC2
    omega
  have r0 : n * (4 * h) = 2 * (n * (2 * h)) := by rw [← Nat.mul_assoc 2, Nat.mul_comm 2 n, Nat.mul_assoc, ← Nat.mul_assoc 2 2]
  have r1 : 2 * dv = 2 * (n * C + R) + n * (4 * h) * B := by
    rw [hdv, hAe, r0]
    have : n * (2 * h * B + C) = n * (2 * h) * B + n * C := by rw [Nat.mul_add, Nat.mul_assoc n]
    rw [this, Nat.mul_assoc 2 (n * (2 * h)) B]
    omega
  have r2 : 2 * dv / (n * (4 * h)) = B := by
    rw [r1, Nat.add_mul_div_left _ _ (Nat.mul_pos hn (by omega)), Nat.div_eq_of_lt (by rw [r0]; omega), Nat.zero_add]
  have r3 : 2 * dv % (n * (4 * h)) = 2 * (n * C + R) := by
    rw [r1, Nat.add_mul_mod_self_left, Nat.mod_eq_of_lt (by rw [r0]; omega)]
  unfold rhe
  rw [l2, l3, r2, r3, r0]
  have q0 : n * (2 * h) = 2 * (n * h) := by rw [Nat.mul_left_comm]
  rw [q0]
  have c1 : (4 * h < 2 * (2 * C + S)) ↔ (2 * (2 * (n * h)) < 2 * (2 * (n * C + R))) := by
    rcases Nat.lt_trichotomy C h with hc | hc | hc
    · have : n * C + n ≤ n * h := by rw [← Nat.mul_succ]; exact Nat.mul_le_mul_left _ hc
      omega
    · subst hc; omega
    · have : n * h + n ≤ n * C := by rw [← Nat.mul_succ]; exact Nat.mul_le_mul_left _ hc
      omega
  have c2 : (4 * h = 2 * (2 * C + S)) ↔ (2 * (2 * (n * h)) = 2 * (2 * (n * C + R))) := by
    rcases Nat.lt_trichotomy C h with hc | hc | hc
    · have : n * C + n ≤ n * h := by rw [← Nat.mul_succ]; exact Nat.mul_le_mul_left _ hc
      omega
    · subst hc; omega
    · have : n * h + n ≤ n * C := by rw [← Nat.mul_succ]; exact Nat.mul_le_mul_left _ hc
      omega
  simp only [c1, c2]
/-- The level of a fraction that is shifted. -/
theorem lev_frac {X n a c : Nat} (hn : 0 < n) (h0 : X / n ≠ 0) : lev (X * 2 ^ a / (n * 2 ^ c)) = (X / n).log2 + a - c - 52 := by
  have b1 : n * 2 ^ (X / n).log2 ≤ X := by
    have := (Nat.le_div_iff_mul_le hn).1 (Nat.log2_self_le h0)
    rwa [Nat.mul_comm] at this
  have b2 : X < n * 2 ^ ((X / n).log2 + 1) := by
    have := (Nat.div_lt_iff_lt_mul hn).1 (Nat.lt_log2_self (n := X / n))
    rwa [Nat.mul_comm] at this
  generalize (X / n).log2 = k at *
  by_cases hc : c ≤ k + a
  · have hle : 2 ^ (k + a - c) ≤ X * 2 ^ a / (n * 2 ^ c) := by
      rw [Nat.le_div_iff_mul_le (Nat.mul_pos hn (Nat.two_pow_pos _)), Nat.mul_left_comm, ← Nat.pow_add, Nat.sub_add_cancel hc, Nat.pow_add, ← Nat.mul_assoc]
      exact Nat.mul_le_mul_right _ b1
    have hlt : X * 2 ^ a / (n * 2 ^ c) < 2 ^ (k + a - c + 1) := by
      rw [Nat.div_lt_iff_lt_mul (Nat.mul_pos hn (Nat.two_pow_pos _)), Nat.mul_left_comm, ← Nat.pow_add, show k + a - c + 1 + c = k + 1 + a by omega, Nat.pow_add, ← Nat.mul_assoc]
      exact Nat.mul_lt_mul_of_pos_right b2 (Nat.two_pow_pos _)
    have hne : X * 2 ^ a / (n * 2 ^ c) ≠ 0 := by
      have := Nat.two_pow_pos (k + a - c)
      omega
    have h1 := (Nat.le_log2 hne).2 hle
    have h2 := (Nat.log2_lt hne).2 hlt
    unfold lev
    omega
  · have hlt : X * 2 ^ a < n * 2 ^ c := by
      have h1 : X * 2 ^ a < n * 2 ^ (k + 1 + a) := by
        rw [Nat.pow_add, ← Nat.mul_assoc]
        exact Nat.mul_lt_mul_of_pos_right b2 (Nat.two_pow_pos _)
      exact Nat.lt_of_lt_of_le h1 (Nat.mul_le_mul_left _ (Nat.pow_le_pow_right (by omega) (by omega)))
    rw [Nat.div_eq_of_lt hlt]
    simp [lev]
    omega
theorem log2_two (a s : Nat) (h : s ≤ 1) (ha : 0 < a) : (2 * a + s).log2 = a.log2 + 1 := by
  apply Nat.le_antisymm
  · have : (2 * a + s).log2 < a.log2 + 1 + 1 := by
      rw [Nat.log2_lt (by omega), Nat.pow_succ]
      have := Nat.lt_log2_self (n := a)
      omega
    omega
  · rw [Nat.le_log2 (by omega), Nat.pow_succ]
    have := Nat.log2_self_le (n := a) (by omega)
    omega
/-- A quotient of 54 digits and what is left over is rounded as the whole one. -/
theorem rq_sticky {dv n : Nat} (a c : Nat) (hn : 0 < n) (hd : dv = 0 ∨ 2 ^ 53 ≤ dv / n) : rq ((2 * (dv / n) + (dv % n != 0).toNat) * 2 ^ a) (2 ^ c) = rq (2 * dv * 2 ^ a) (n * 2 ^ c) := by
  rcases hd with rfl | hd
  · simp [rq_zero, Nat.two_pow_pos, Nat.mul_pos hn (Nat.two_pow_pos c)]
  have hA : 0 < dv / n := Nat.lt_of_lt_of_le (Nat.two_pow_pos _) hd
  have hlA : 53 ≤ (dv / n).log2 := (Nat.le_log2 (by omega)).2 hd
  have hs := bool_le (dv % n != 0)
  have e2 : 2 * dv / n = 2 * (dv / n) ∨ 2 * dv / n = 2 * (dv / n) + 1 := by
    have h1 := Nat.div_add_mod dv n
    have h2 := Nat.mod_lt dv hn
    have : 2 * dv = 2 * (dv % n) + n * (2 * (dv / n)) := by rw [Nat.mul_left_comm]; omega
    rw [this, Nat.add_mul_div_left _ _ hn]
    by_cases h3 : 2 * (dv % n) < n
    · rw [Nat.div_eq_of_lt h3]; omega
    · have : 2 * (dv % n) / n = 1 := by
        rw [Nat.div_eq_iff hn]; omega
      rw [this]; omega
  have hlog2 : (2 * dv / n).log2 = (dv / n).log2 + 1 := by
    rcases e2 with e | e
    · rw [e]; exact log2_two _ 0 (by omega) hA
    · rw [e]; exact log2_two _ 1 (by omega) hA
  have l1 : lev ((2 * (dv / n) + (dv % n != 0).toNat) * 2 ^ a / 2 ^ c) = (dv / n).log2 + 1 + a - c - 52 := by
    have := lev_frac (X := 2 * (dv / n) + (dv % n != 0).toNat) (n := 1) (a := a) (c := c) (by omega) (by rw [Nat.div_one]; omega)
    rw [Nat.one_mul, Nat.div_one, log2_two _ _ hs hA] at this
    exact this
  have l2 : lev (2 * dv * 2 ^ a / (n * 2 ^ c)) = (dv / n).log2 + 1 + a - c - 52 := by
    rw [lev_frac hn (by omega), hlog2]
  unfold rq
  rw [l1, l2]
  generalize hL : (dv / n).log2 + 1 + a - c - 52 = L
  obtain ⟨k, hk⟩ : ∃ k, c + L = (2 + k) + a := ⟨c + L - a - 2, by omega⟩
  have g1 : 2 ^ c * 2 ^ L = 4 * 2 ^ k * 2 ^ a := by rw [← Nat.pow_add, hk, Nat.pow_add, Nat.pow_add]
  have g2 : n * 2 ^ c * 2 ^ L = n * (4 * 2 ^ k) * 2 ^ a := by rw [Nat.mul_assoc, g1, ← Nat.mul_assoc]
  rw [g1, g2, rhe_scale (Nat.two_pow_pos _), rhe_scale (Nat.two_pow_pos _), sticky _ _ _ hn]
theorem div_fin {x y : Nat} (hx : rg x < 9218868437227405312) (hy : rg y < 9218868437227405312) (h0 : 0 < rg y) :
    Ieee.double.div x y = some (wd (sg x ^^ sg y) (rq (mg (rg x) * U1) (mg (rg y)))) := by
  obtain ⟨m, p, ex, hm⟩ := read_num hx
  obtain ⟨n, q, ey, hn⟩ := read_num hy
  have hn0 : n ≠ 0 := by
    rintro rfl
    rw [Nat.zero_mul] at hn
    have := mg_pos (r := rg y) (by omega) h0
    omega
  have hnp : 0 < n := by omega
  unfold Ieee.Format.div
  rw [ex, ey]
  have hfb : Ieee.double.fractionBits + 2 = 54 := rfl
  rw [hfb]
  unfold Ieee.Datum.quotient
  simp only [if_neg hn0, Option.map_some, Ieee.Format.write]
  obtain ⟨e, he⟩ : ∃ e, 54 + n.log2 - m.log2 = e := ⟨_, rfl⟩
  rw [he, nearest_eq _ _ _ (p + K1) (q + e + 1) (by have := K1_eq; omega), word_wd]
  refine congrArg some (congrArg (wd _) ?_)
  have hd : m <<< e = 0 ∨ 2 ^ 53 ≤ m <<< e / n := by
    rw [Nat.shiftLeft_eq]
    by_cases hm0 : m = 0
    · left; rw [hm0, Nat.zero_mul]
    · right
      rw [Nat.le_div_iff_mul_le hnp]
      have a1 := Nat.log2_self_le hm0
      have a2 := Nat.lt_log2_self (n := n)
      have a3 : 2 ^ m.log2 * 2 ^ e ≤ m * 2 ^ e := Nat.mul_le_mul_right _ a1
      have a4 : 2 ^ (54 + n.log2) ≤ 2 ^ m.log2 * 2 ^ e := by rw [← Nat.pow_add]; exact Nat.pow_le_pow_right (by omega) (by omega)
      have a5 : 2 ^ 53 * n ≤ 2 ^ 53 * 2 ^ (n.log2 + 1) := Nat.mul_le_mul_left _ (Nat.le_of_lt a2)
      rw [← Nat.pow_add, show 53 + (n.log2 + 1) = 54 + n.log2 by omega] at a5
      omega
  rw [rq_sticky _ _ hnp hd, ← hm, ← hn, Nat.shiftLeft_eq]
  have e1 : 2 * (m * 2 ^ e) * 2 ^ (p + K1) = m * 2 ^ p * U1 * 2 ^ (e + 1) := by
    have u : 2 ^ (p + K1) = 2 ^ p * U1 := Nat.pow_add 2 p K1
    rw [u, Nat.pow_succ]
    generalize 2 ^ p = P
    generalize U1 = V
    generalize 2 ^ e = E
    ac_rfl
  have e2 : n * 2 ^ (q + e + 1) = n * 2 ^ q * 2 ^ (e + 1) := by
    rw [show q + e + 1 = q + (e + 1) by omega, Nat.pow_add, Nat.mul_assoc]
  rw [e1, e2, rq_scale (Nat.two_pow_pos _)]
theorem div_fin_inf {x y : Nat} (hx : rg x < 9218868437227405312) (hy : rg y = 9218868437227405312) : Ieee.double.div x y = some (wd (sg x ^^ sg y) 0) := by
  obtain ⟨m, p, ex, hm⟩ := read_num hx
  unfold Ieee.Format.div
  rw [ex, read_inf hy]
  rfl
theorem div_inf_fin {x y : Nat} (hx : rg x = 9218868437227405312) (hy : rg y < 9218868437227405312) : Ieee.double.div x y = some (wd (sg x ^^ sg y) 9218868437227405312) := by
  obtain ⟨m, p, ey, hm⟩ := read_num hy
  unfold Ieee.Format.div
  rw [ey, read_inf hx]
  rfl
theorem div_nan {x y : Nat} (h : 9218868437227405312 < rg x ∨ 9218868437227405312 < rg y) : Ieee.double.div x y = none := by
  unfold Ieee.Format.div
  by_cases hx : 9218868437227405312 < rg x
  · obtain ⟨t, e⟩ := read_nan hx
    rw [e]
    rfl
  · obtain ⟨t, e⟩ := read_nan (h.resolve_left hx)
    rw [e]
    by_cases fx : rg x < 9218868437227405312
    · obtain ⟨m, p, ex, hm⟩ := read_num fx
      rw [ex]
      rfl
    · rw [read_inf (by omega : rg x = 9218868437227405312)]
      rfl
theorem mul_nan {x y : Nat} (h : 9218868437227405312 < rg x ∨ 9218868437227405312 < rg y) : Ieee.double.mul x y = none := by
  unfold Ieee.Format.mul
  by_cases hx : 9218868437227405312 < rg x
  · obtain ⟨t, e⟩ := read_nan hx
    rw [e]
    rfl
  · obtain ⟨t, e⟩ := read_nan (h.resolve_left hx)
    rw [e]
    by_cases fx : rg x < 9218868437227405312
    · obtain ⟨m, p, ex, hm⟩ := read_num fx
      rw [ex]
      rfl
    · rw [read_inf (by omega : rg x = 9218868437227405312)]
      rfl
/-! ### Whole numbers -/
theorem int_float (n : Int) : Go.floatOfInt .f64 n = wd (decide (n < 0)) (rq (n.natAbs * U1) 1) := by
  unfold Go.floatOfInt FloatKind.nearest FloatKind.encode
  show Ieee.double.nearest _ _ _ = _
  rw [nearest_eq _ _ _ K1 0 (by have := K1_eq; omega), word_wd]
  rfl
theorem rk_int (n : Int) : Go.floatOfInt .f64 n < 18446744073709551616 ∧ rg (Go.floatOfInt .f64 n) = rq (n.natAbs * U1) 1 ∧ sg (Go.floatOfInt .f64 n) = decide (n < 0) := by
  have := rq_le (n.natAbs * U1) 1
  rw [int_float]
  exact ⟨wd_lt (by omega), rg_wd (by omega), sg_wd (by omega)⟩
end Go.Proofs.YtkckncggiicciaaDoor
