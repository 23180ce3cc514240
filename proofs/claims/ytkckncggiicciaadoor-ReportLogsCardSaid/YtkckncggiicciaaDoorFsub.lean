/-
  What sums and quotients are, once more; rounding up; whole numbers of floats.
-/
import Derived.Test.YtkckncggiicciaaDoorFright
namespace Go.Proofs.YtkckncggiicciaaDoor
theorem nan_of_word {s : Bool} {r : Nat} (h : r ≤ 9218868437227405312) : isNan (wd s r) = false ∧ wd s r < 18446744073709551616 := by
  unfold isNan
  rw [rg_wd (by omega)]
  exact ⟨by simp; omega, wd_lt (by omega)⟩
theorem add_ok {x y r : Nat} (h : Ieee.double.add x y = some r) : isNan r = false ∧ r < 18446744073709551616 := by
  by_cases hn : 9218868437227405312 < rg x ∨ 9218868437227405312 < rg y
  · rw [add_nan hn] at h; cases h
  by_cases fx : rg x < 9218868437227405312
  · by_cases fy : rg y < 9218868437227405312
    · rw [add_fin fx fy] at h
      injection h with h
      subst h
      exact nan_of_word (rq_le _ _)
    · rw [add_fin_inf fx (by omega)] at h
      injection h with h
      subst h
      exact nan_of_word (Nat.le_refl _)
  · by_cases fy : rg y < 9218868437227405312
    · rw [add_inf_fin (by omega) fy] at h
      injection h with h
      subst h
      exact nan_of_word (Nat.le_refl _)
    · rw [add_inf_inf (by omega) (by omega)] at h
      split at h
      · injection h with h
        subst h
        exact nan_of_word (Nat.le_refl _)
      · cases h
theorem sub_ok {x y r : Nat} (h : Ieee.double.sub x y = some r) : isNan r = false ∧ r < 18446744073709551616 := add_ok (by rw [← sub_add]; exact h)
/-- A quotient by a finite number that is not nought. -/
theorem div_ok {x y : Nat} (hx : isNan x = false) (hy : rg y < 9218868437227405312) (h0 : 0 < rg y) : ∃ r, Ieee.double.div x y = some r ∧ isNan r = false ∧ r < 18446744073709551616 := by
  have := isNan_false hx
  by_cases fx : rg x < 9218868437227405312
  · exact ⟨_, div_fin fx hy h0, nan_of_word (rq_le _ _)⟩
  · exact ⟨_, div_inf_fin (by omega) hy, nan_of_word (Nat.le_refl _)⟩
theorem lt_of_nan {x : Nat} (h : isNan x = true) : 9218868437227405312 < rg x := isNan_true h
/-- A difference is no NaN, but of two infinities. -/
theorem sub_right {x y : Nat} (hx : x ≤ 9218868437227405312) (hy : y ≤ 9218868437227405312) :
    (x = 9218868437227405312 ∧ y = 9218868437227405312 ∧ Ieee.double.sub x y = none) ∨ ∃ r, Ieee.double.sub x y = some r ∧ isNan r = false ∧ r < 18446744073709551616 ∧ rk r = (if x = 9218868437227405312 then 9218868437227405312 else if y = 9218868437227405312 then -9218868437227405312 else sr ((mg x : Int) - mg y)) ∧
      (rk r = 0 → r = 0) := by
  obtain ⟨rx, sx⟩ := rg_small hx
  obtain ⟨ry, sy⟩ := rg_small hy
  have so : sg (opp y) = true := by rw [sg_opp, sy]; rfl
  have ro : rg (opp y) = y := by rw [rg_opp, ry]
  rw [sub_add]
  by_cases fx : x = 9218868437227405312
  · by_cases fy : y = 9218868437227405312
    · left
      refine ⟨fx, fy, ?_⟩
      rw [add_inf_inf (by omega) (by omega), if_neg (by rw [sx, so]; simp)]
    · right
      refine ⟨_, add_inf_fin (by omega) (by omega), ?_⟩
      rw [if_pos fx, sx, wd_false]
      exact ⟨(right_sg (right_small (Nat.le_refl _))).1, by omega, rfl, fun h => by revert h; decide⟩
  · right
    by_cases fy : y = 9218868437227405312
    · refine ⟨_, add_fin_inf (by omega) (by omega), ?_⟩
      rw [if_neg fx, if_pos fy, so]
      have hk : rk (wd true 9218868437227405312) = -9218868437227405312 := by decide
      exact ⟨(nan_of_word (Nat.le_refl _)).1, (nan_of_word (Nat.le_refl _)).2, hk, fun h => by rw [hk] at h; omega⟩
    · obtain ⟨r, h1, h2, h3, h4, h5, h6⟩ := rk_add (x := x) (y := opp y) (by omega) (by omega)
      have e : sv x + sv (opp y) = (mg x : Int) - mg y := by
        rw [sv_opp]
        unfold sv
        rw [sx, sy, rx, ry]
        simp
        omega
      rw [e] at h4 h5 h6
      refine ⟨r, h1, by unfold isNan; simp; omega, h2, by rw [if_neg fx, if_neg fy, h4], fun h => ?_⟩
      have hr0 : rg r = 0 := by unfold rk at h; split at h <;> omega
      by_cases hd : (mg x : Int) - mg y = 0
      · have := h5 hd
        rw [sx, Bool.false_and] at this
        exact eq_of_sg_rg h2 (by omega) this hr0
      · have hs := h6 hd
        by_cases hneg : (mg x : Int) - mg y < 0
        · -- a difference of unlike numbers is not nought
          exfalso
          have hxy : x < y := by
            apply Nat.lt_of_not_le
            intro hle
            have := mg_le hx hle
            omega
          have h1' : 1 ≤ rq (mg y - mg x) 1 := by
            apply le_rq_of (by omega) (by omega)
            show 1 * 1 ≤ _
            omega
          rw [h4] at h
          unfold sr at h
          rw [if_pos hneg] at h
          have e2 : ((mg x : Int) - mg y).natAbs = mg y - mg x := by omega
          rw [e2] at h
          omega
        · rw [decide_eq_false hneg] at hs
          exact eq_of_sg_rg h2 (by omega) hs hr0
/-! ### Quotients keep the order -/
/-- The rung of a quotient, with its sign. -/
def qd (a : Int) (y : Nat) : Int := if a < 0 then -(rq (mg a.natAbs * U1) (mg y) : Int) else rq (mg a.natAbs * U1) (mg y)
theorem rk_wd (s : Bool) {r : Nat} (h : r ≤ 9218868437227405312) : rk (wd s r) = if s then -(r : Int) else r := by
  unfold rk
  rw [sg_wd (by omega), rg_wd (by omega)]
theorem div_rk {x y : Nat} (hx : rg x < 9218868437227405312) (hy : y < 9218868437227405312) (h0 : 0 < y) :
    ∃ r, Ieee.double.div x y = some r ∧ rg r ≤ 9218868437227405312 ∧ r < 18446744073709551616 ∧ rk r = qd (rk x) y := by
  obtain ⟨ry, sy⟩ := rg_small (Nat.le_of_lt hy)
  refine ⟨_, div_fin hx (by omega) (by omega), ?_⟩
  have hle := rq_le (mg (rg x) * U1) (mg (rg y))
  refine ⟨by rw [rg_wd (by omega)]; exact hle, wd_lt (by omega), ?_⟩
  rw [rk_wd _ hle, sy, Bool.xor_false, ry]
  unfold qd rk
  cases h : sg x
  · simp
    intro h'; omega
  · simp only [if_true]
    by_cases hz : rg x = 0
    · have : rq (mg 0 * U1) (mg y) = 0 := by
        rw [mg_zero, Nat.zero_mul]
        exact rq_zero (mg_pos (by omega) h0)
      rw [hz]
      simp [this]
    · rw [if_pos (by omega)]
      simp
theorem qd_mono {a b : Int} {y : Nat} (ha : -9218868437227405312 ≤ a) (hb : b ≤ 9218868437227405312) (h : a ≤ b) : qd a y ≤ qd b y := by
  unfold qd
  split <;> split
  · have := rq_mono_same (D := mg y) (N1 := mg b.natAbs * U1) (N2 := mg a.natAbs * U1) (Nat.mul_le_mul_right _ (mg_le (by omega) (by omega)))
    omega
  · omega
  · omega
  · have := rq_mono_same (D := mg y) (N1 := mg a.natAbs * U1) (N2 := mg b.natAbs * U1) (Nat.mul_le_mul_right _ (mg_le (by omega) (by omega)))
    omega
/-- A quotient by one or more is no greater. -/
theorem qd_le {a : Int} {y : Nat} (ha : -9218868437227405312 ≤ a ∧ a ≤ 9218868437227405312) (hy : 4607182418800017408 ≤ y) (hy2 : y ≤ 9218868437227405312) : (0 ≤ a → 0 ≤ qd a y ∧ qd a y ≤ a) ∧ (a ≤ 0 → a ≤ qd a y ∧ qd a y ≤ 0) := by
  have hu : U1 ≤ mg y := by rw [← mg_one]; exact mg_le hy2 hy
  have hp : 0 < mg y := Nat.lt_of_lt_of_le U1_pos hu
  have hle : rq (mg a.natAbs * U1) (mg y) ≤ a.natAbs := rq_le_of hp (by omega) (Nat.mul_le_mul_left _ hu)
  unfold qd
  constructor
  · intro h
    rw [if_neg (by omega)]
    omega
  · intro h
    split <;> omega
/-! ### Rounding up, cutting -/
theorem cut_zero (neg : Bool) (n drop : Nat) : Ieee.Toward.zero.cut neg n drop = n / 2 ^ drop := by
  unfold Ieee.Toward.cut
  simp only [Nat.one_shiftLeft, Bool.toNat_false, Nat.add_zero]
  by_cases h : drop ≤ n.log2 + 2
  · rw [Nat.min_eq_left h]
  · rw [Nat.min_eq_right (by omega)]
    have hn : n < 2 ^ (n.log2 + 1) := Nat.lt_log2_self
    have h2 : 2 ^ (n.log2 + 1) ≤ 2 ^ (n.log2 + 2) := Nat.pow_le_pow_right (by omega) (by omega)
    have h3 : 2 ^ (n.log2 + 1) ≤ 2 ^ drop := Nat.pow_le_pow_right (by omega) (by omega)
    rw [Nat.div_eq_of_lt (by omega), Nat.div_eq_of_lt (by omega)]
theorem cut_up (neg : Bool) (n drop : Nat) : Ieee.Toward.up.cut neg n drop = n / 2 ^ drop + (!neg && n % 2 ^ drop != 0).toNat := by
  unfold Ieee.Toward.cut
  simp only [Nat.one_shiftLeft]
  by_cases h : drop ≤ n.log2 + 2
  · rw [Nat.min_eq_left h]
  · rw [Nat.min_eq_right (by omega)]
    have hn : n < 2 ^ (n.log2 + 1) := Nat.lt_log2_self
    have h2 : 2 ^ (n.log2 + 1) ≤ 2 ^ (n.log2 + 2) := Nat.pow_le_pow_right (by omega) (by omega)
    have h3 : 2 ^ (n.log2 + 1) ≤ 2 ^ drop := Nat.pow_le_pow_right (by omega) (by omega)
    rw [Nat.div_eq_of_lt (by omega), Nat.div_eq_of_lt (by omega), Nat.mod_eq_of_lt (by omega), Nat.mod_eq_of_lt (by omega)]
/-- A number's whole ones, and what is left over. -/
theorem whole_eq {m p M : Nat} (h : m * 2 ^ p = M) : m <<< ((-1074 + (p : Int)).toNat) / 2 ^ (-(-1074 + (p : Int))).toNat = M / U1 ∧ (m <<< ((-1074 + (p : Int)).toNat) % 2 ^ (-(-1074 + (p : Int))).toNat = 0 ↔ M % U1 = 0) := by
  obtain ⟨q, hq⟩ : ∃ q, (-1074 + (p : Int)).toNat = q := ⟨_, rfl⟩
  obtain ⟨d, hd⟩ : ∃ d, (-(-1074 + (p : Int))).toNat = d := ⟨_, rfl⟩
  rw [hq, hd, Nat.shiftLeft_eq]
  have hk := K1_eq
  have e1 : p = q + (p - q) := by omega
  have e2 : K1 = d + (p - q) := by omega
  have hM : M = m * 2 ^ q * 2 ^ (p - q) := by rw [← h, Nat.mul_assoc, ← Nat.pow_add, ← e1]
  have hU : U1 = 2 ^ d * 2 ^ (p - q) := by unfold U1; rw [← Nat.pow_add, ← e2]
  rw [hM, hU, Nat.mul_div_mul_right _ _ (Nat.two_pow_pos _), Nat.mul_mod_mul_right]
  refine ⟨rfl, ?_⟩
  have := Nat.two_pow_pos (p - q)
  rw [Nat.mul_eq_zero]
  omega
/-- int(x), of a finite number. -/
def cutI (x : Nat) : Int := if sg x then -((mg (rg x) / U1 : Nat) : Int) else ((mg (rg x) / U1 : Nat) : Int)
theorem toInt_eq {x : Nat} (h : rg x < 9218868437227405312) : (FloatKind.f64.decode x).toInt .zero = some (cutI x) := by
  obtain ⟨m, p, ex, hm⟩ := read_num h
  show (Ieee.double.read x).toInt .zero = _
  rw [ex]
  unfold Ieee.Datum.toInt Ieee.Datum.integral
  simp only [cut_zero]
  have := (whole_eq hm).1
  rw [this, signed_eq, Nat.pow_zero, Nat.mul_one]
  rfl
/-- A finite number rounded up. -/
def upI (x : Nat) : Int := if sg x then -((mg (rg x) / U1 : Nat) : Int) else ((mg (rg x) / U1 + (mg (rg x) % U1 != 0).toNat : Nat) : Int)
def ceilW (x : Nat) : Nat := if rg x = 9218868437227405312 then x else wd (sg x) (rq ((upI x).natAbs * U1) 1)
theorem ceil_enc {x : Nat} (h : isNan x = false) (hx : x < 18446744073709551616) : FloatKind.f64.encode ((FloatKind.f64.decode x).integral .up) = ceilW x := by
  have hle := isNan_false h
  unfold ceilW
  by_cases hi : rg x = 9218868437227405312
  · rw [if_pos hi]
    show Ieee.double.write ((Ieee.double.read x).integral .up) = x
    rw [read_inf hi]
    show wd (sg x) 9218868437227405312 = x
    rw [← hi]
    exact wd_self hx
  · rw [if_neg hi]
    obtain ⟨m, p, ex, hm⟩ := read_num (show rg x < 9218868437227405312 by omega)
    show Ieee.double.write ((Ieee.double.read x).integral .up) = _
    rw [ex]
    unfold Ieee.Datum.integral Ieee.Format.write
    simp only [cut_up]
    rw [nearest_eq _ _ _ K1 0 (by have := K1_eq; omega), word_wd]
    have h1 := (whole_eq hm).1
    have h2 := (whole_eq hm).2
    rw [h1]
    have e : ((upI x).natAbs : Nat) = mg (rg x) / U1 + (!sg x && (m <<< ((-1074 + (p : Int)).toNat) % 2 ^ (-(-1074 + (p : Int))).toNat != 0)).toNat := by
      have hb : (m <<< ((-1074 + (p : Int)).toNat) % 2 ^ (-(-1074 + (p : Int))).toNat != 0) = (mg (rg x) % U1 != 0) := by
        rw [Bool.eq_iff_iff, bne_iff_ne, bne_iff_ne]
        exact not_congr h2
      rw [hb]
      unfold upI
      generalize mg (rg x) / U1 = A
      generalize (mg (rg x) % U1 != 0) = c
      cases sg x
      · rw [if_neg (by decide), Int.natAbs_natCast]
        rfl
      · rw [if_pos rfl, Int.natAbs_neg, Int.natAbs_natCast]
        rfl
    rw [e, Nat.pow_zero]
    rfl
theorem ceil_lt {x : Nat} (hx : x < 18446744073709551616) : ceilW x < 18446744073709551616 ∧ (isNan x = false → isNan (ceilW x) = false) := by
  unfold ceilW
  split
  · exact ⟨hx, fun h => h⟩
  · exact ⟨(nan_of_word (rq_le _ _)).2, fun _ => (nan_of_word (rq_le _ _)).1⟩
theorem ceil_rk {x : Nat} (h : rg x < 9218868437227405312) : rk (ceilW x) = sr (upI x * U1) := by
  unfold ceilW
  rw [if_neg (by omega), rk_wd _ (rq_le _ _)]
  have hU := U1_pos
  unfold sr
  have hn : (upI x * (U1 : Int)).natAbs = (upI x).natAbs * U1 := by rw [Int.natAbs_mul, Int.natAbs_natCast]
  rw [hn]
  cases hs : sg x
  · have h0 : 0 ≤ upI x := by unfold upI; rw [hs]; simp only [Bool.false_eq_true, if_false]; exact Int.natCast_nonneg _
    have : ¬ upI x * (U1 : Int) < 0 := by
      have := Int.mul_nonneg h0 (Int.natCast_nonneg U1)
      omega
    rw [if_neg this]
    exact if_neg (by decide)
  · have h0 : upI x ≤ 0 := by
      unfold upI
      rw [hs]
      simp only [if_true]
      generalize mg (rg x) / U1 = A
      omega
    by_cases hz : upI x = 0
    · rw [hz]
      have : rq ((0 : Int).natAbs * U1) 1 = 0 := by
        rw [Int.natAbs_zero, Nat.zero_mul]
        exact rq_zero (by omega)
      rw [this, Int.zero_mul]
      decide
    · have : upI x * (U1 : Int) < 0 := Int.mul_neg_of_neg_of_pos (by omega) (by omega)
      rw [if_pos this]
      exact if_pos rfl
theorem upI_mono {x y : Nat} (hx : rg x < 9218868437227405312) (hy : rg y < 9218868437227405312) (h : rk x ≤ rk y) : upI x ≤ upI y := by
  have hU := U1_pos
  unfold upI
  unfold rk at h
  cases h1 : sg x <;> cases h2 : sg y <;> rw [h1, h2] at h <;> simp only [if_true, Bool.false_eq_true, if_false] at h ⊢
  · have hm : mg (rg x) ≤ mg (rg y) := mg_le (by omega) (by omega)
    have hd : mg (rg x) / U1 ≤ mg (rg y) / U1 := Nat.div_le_div_right hm
    have b1 := bool_le (mg (rg x) % U1 != 0)
    have b2 := bool_le (mg (rg y) % U1 != 0)
    have e1 := Nat.div_add_mod (mg (rg x)) U1
    have e2 := Nat.div_add_mod (mg (rg y)) U1
    have hz : mg (rg x) / U1 = mg (rg y) / U1 → (mg (rg x) % U1 != 0).toNat ≤ (mg (rg y) % U1 != 0).toNat := fun he => by
      rw [he] at e1
      by_cases hz : mg (rg x) % U1 = 0
      · simp [hz]
      · have hz2 : mg (rg y) % U1 ≠ 0 := by omega
        have e3 : (mg (rg y) % U1 != 0) = true := by simpa using hz2
        rw [e3]
        exact bool_le _
    clear e1 e2
    generalize mg (rg x) / U1 = a at *
    generalize mg (rg y) / U1 = b at *
    generalize (mg (rg x) % U1 != 0).toNat = c at *
    generalize (mg (rg y) % U1 != 0).toNat = d at *
    omega
  · have e1 : rg x = 0 := by omega
    have e2 : rg y = 0 := by omega
    rw [e1, e2, mg_zero]
    simp
  · generalize mg (rg x) / U1 = a at *
    generalize mg (rg y) / U1 = b at *
    omega
  · have hm : mg (rg y) ≤ mg (rg x) := mg_le (by omega) (by omega)
    have hd : mg (rg y) / U1 ≤ mg (rg x) / U1 := Nat.div_le_div_right hm
    generalize mg (rg x) / U1 = a at *
    generalize mg (rg y) / U1 = b at *
    omega
theorem cutI_mono {x y : Nat} (hx : rg x < 9218868437227405312) (hy : rg y < 9218868437227405312) (h : rk x ≤ rk y) : cutI x ≤ cutI y := by
  unfold cutI
  unfold rk at h
  cases h1 : sg x <;> cases h2 : sg y <;> rw [h1, h2] at h <;> simp only [if_true, Bool.false_eq_true, if_false] at h ⊢
  · have hd : mg (rg x) / U1 ≤ mg (rg y) / U1 := Nat.div_le_div_right (mg_le (by omega) (by omega))
    generalize mg (rg x) / U1 = a at *
    generalize mg (rg y) / U1 = b at *
    omega
  · have e1 : rg x = 0 := by omega
    have e2 : rg y = 0 := by omega
    rw [e1, e2]
    simp [mg_zero]
  · generalize mg (rg x) / U1 = a at *
    generalize mg (rg y) / U1 = b at *
    omega
  · have hd : mg (rg y) / U1 ≤ mg (rg x) / U1 := Nat.div_le_div_right (mg_le (by omega) (by omega))
    generalize mg (rg x) / U1 = a at *
    generalize mg (rg y) / U1 = b at *
    omega
/-- Rounding up keeps the order. -/
theorem ceil_mono {x y : Nat} (hx : isNan x = false) (hy : isNan y = false) (h : rk x ≤ rk y) : rk (ceilW x) ≤ rk (ceilW y) := by
  have a1 := isNan_false hx
  have a2 := isNan_false hy
  have inf : ∀ z, rg z = 9218868437227405312 → ceilW z = z := fun z hz => by unfold ceilW; rw [if_pos hz]
  have bd : ∀ z, isNan z = false → -9218868437227405312 ≤ rk (ceilW z) ∧ rk (ceilW z) ≤ 9218868437227405312 := fun z hz => by
    have : rg (ceilW z) ≤ 9218868437227405312 := by
      unfold ceilW
      split
      · omega
      · rw [rg_wd (by have := rq_le ((upI z).natAbs * U1) 1; omega)]
        exact rq_le _ _
    unfold rk
    split <;> omega
  by_cases fx : rg x = 9218868437227405312
  · rw [inf x fx]
    by_cases hs : sg x = true
    · have : rk x = -9218868437227405312 := by unfold rk; rw [hs, fx]; rfl
      rw [this]
      exact (bd y hy).1
    · have hs' : sg x = false := by simpa using hs
      have hx' : rk x = 9218868437227405312 := by unfold rk; rw [hs', fx]; rfl
      have hy' : rg y = 9218868437227405312 := by rw [hx'] at h; unfold rk at h; split at h <;> omega
      rw [inf y hy']
      exact h
  · by_cases fy : rg y = 9218868437227405312
    · rw [inf y fy]
      by_cases hs : sg y = true
      · exfalso
        have : rk y = -9218868437227405312 := by unfold rk; rw [hs, fy]; rfl
        rw [this] at h
        unfold rk at h
        split at h <;> omega
      · have hs' : sg y = false := by simpa using hs
        have : rk y = 9218868437227405312 := by unfold rk; rw [hs', fy]; rfl
        rw [this]
        exact (bd x hx).2
    · rw [ceil_rk (by omega), ceil_rk (by omega)]
      exact sr_mono (Int.mul_le_mul_of_nonneg_right (upI_mono (by omega) (by omega) h) (Int.natCast_nonneg _))
/-- int(x) lies within its kind, where x does. -/
theorem cutI_bd {x : Nat} (h1 : -4890909195324358656 ≤ rk x) (h2 : rk x < 4890909195324358656) : rg x < 9218868437227405312 ∧ -9223372036854775808 ≤ cutI x ∧ cutI x ≤ 9223372036854775807 := by
  have hU := U1_pos
  have hr : rg x ≤ 4890909195324358656 := by unfold rk at h1 h2; cases hs : sg x <;> rw [hs] at h1 h2 <;> simp at h1 h2 <;> omega
  refine ⟨by omega, ?_⟩
  have hm := mg_le (r := rg x) (s := 4890909195324358656) (by omega) hr
  rw [mg_top] at hm
  unfold cutI
  cases hs : sg x
  · have hlt : rg x < 4890909195324358656 := by unfold rk at h2; rw [hs] at h2; simp at h2; omega
    have hm2 := mg_lt (r := rg x) (s := 4890909195324358656) (by omega) hlt
    rw [mg_top] at hm2
    have : mg (rg x) / U1 < 9223372036854775808 := by rw [Nat.div_lt_iff_lt_mul hU]; exact hm2
    simp only [Bool.false_eq_true, if_false]
    generalize mg (rg x) / U1 = a at *
    omega
  · have : mg (rg x) / U1 ≤ 9223372036854775808 := by
      have := Nat.div_le_div_right (c := U1) hm
      rwa [Nat.mul_div_cancel _ hU] at this
    simp only [if_true]
    generalize mg (rg x) / U1 = a at *
    omega
theorem toIntVal_eq {x : Nat} (h1 : -4890909195324358656 ≤ rk x) (h2 : rk x < 4890909195324358656) : floatToIntVal .f64 x .i64 = some (cutI x) := by
  obtain ⟨a, b, c⟩ := cutI_bd h1 h2
  unfold floatToIntVal
  rw [toInt_eq a]
  simp only
  rw [if_pos]
  exact ⟨b, c⟩
end Go.Proofs.YtkckncggiicciaaDoor
