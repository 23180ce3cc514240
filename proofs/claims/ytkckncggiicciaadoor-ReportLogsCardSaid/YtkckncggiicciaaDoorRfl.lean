/-
  Floats of whole numbers below 2^53 are these numbers; their sums too; their mean is no more than what bounds them.
-/
import Derived.Test.YtkckncggiicciaaDoorMean
namespace Go.Proofs.YtkckncggiicciaaDoor
theorem mg_made (M E : Nat) (h1 : 4503599627370496 ≤ M) (h2 : M < 9007199254740992) : mg (M - 4503599627370496 + 4503599627370496 * (E + 1)) = M * 2 ^ E := by
  unfold mg
  have e1 : (M - 4503599627370496 + 4503599627370496 * (E + 1)) / 4503599627370496 = E + 1 := by omega
  have e2 : (M - 4503599627370496 + 4503599627370496 * (E + 1)) % 4503599627370496 = M - 4503599627370496 := by omega
  rw [if_neg (by omega), e1, e2, Nat.add_sub_cancel, show 4503599627370496 + (M - 4503599627370496) = M by omega]
theorem made_bd {M E : Nat} (h2 : M < 9007199254740992) (hE : E ≤ 1074) : M - 4503599627370496 + 4503599627370496 * (E + 1) ≤ 9218868437227405312 := by omega
theorem exact_mg {m : Nat} (h0 : 0 < m) (h : m < 9007199254740992) : ∃ r, r ≤ 9218868437227405312 ∧ mg r = m * U1 := by
  have hl : m.log2 < 53 := (Nat.log2_lt (by omega)).2 h
  obtain ⟨k, hk⟩ : ∃ k, m.log2 + k = 52 := ⟨52 - m.log2, by omega⟩
  have hlo : 2 ^ m.log2 ≤ m := Nat.log2_self_le (by omega)
  have hhi : m < 2 ^ (m.log2 + 1) := Nat.lt_log2_self
  have hM1 : 4503599627370496 ≤ m * 2 ^ k := by
    have : 2 ^ m.log2 * 2 ^ k ≤ m * 2 ^ k := Nat.mul_le_mul_right _ hlo
    rw [← Nat.pow_add, hk] at this
    exact this
  have hM2 : m * 2 ^ k < 9007199254740992 := by
    have : m * 2 ^ k < 2 ^ (m.log2 + 1) * 2 ^ k := Nat.mul_lt_mul_of_pos_right hhi (Nat.two_pow_pos _)
    rw [← Nat.pow_add, show m.log2 + 1 + k = 53 by omega] at this
    exact this
  have hK := K1_eq
  obtain ⟨E, hE⟩ : ∃ E, E + k = K1 := ⟨K1 - k, by omega⟩
  have hE2 : E ≤ 1074 := by omega
  refine ⟨m * 2 ^ k - 4503599627370496 + 4503599627370496 * (E + 1), ?_, ?_⟩
  · exact made_bd hM2 hE2
  · rw [mg_made _ _ hM1 hM2, Nat.mul_assoc, ← Nat.pow_add, Nat.add_comm k E, hE]
    rfl
theorem mg_fi {m : Nat} (h : m < 9007199254740992) : mg (fi m) = m * U1 := by
  by_cases h0 : m = 0
  · subst h0
    rw [fi_zero, Nat.zero_mul]
    rfl
  · obtain ⟨r, h1, h2⟩ := exact_mg (by omega) h
    have : fi m = r := by
      unfold fi
      rw [← h2]
      exact rq_mg1 h1
    rw [this, h2]
theorem fi_le {m : Nat} (h : m < 9007199254740992) : fi m ≤ 4890909195324358656 := fi_bd (by omega)
theorem add_exact {x y : Nat} (hx : x < 9218868437227405312) (hy : y < 9218868437227405312) : Ieee.double.add x y = some (rq (mg x + mg y) 1) := by
  obtain ⟨rx, sx⟩ := rg_small (Nat.le_of_lt hx)
  obtain ⟨ry, sy⟩ := rg_small (Nat.le_of_lt hy)
  rw [add_fin (by omega) (by omega)]
  have ex : sv x = (mg x : Int) := by unfold sv; rw [sx, rx]; rfl
  have ey : sv y = (mg y : Int) := by unfold sv; rw [sy, ry]; rfl
  have e : (sv x + sv y).natAbs = mg x + mg y := by rw [ex, ey]; omega
  have hs : (if sv x + sv y = 0 then sg x && sg y else decide (sv x + sv y < 0)) = false := by
    rw [sx]
    split
    · rfl
    · simp; omega
  rw [hs, e, wd_false]
theorem addV_fi {a b : Nat} (h : a + b < 9007199254740992) : addV (fi a) (fi b) = fi (a + b) := by
  have h1 := fi_le (m := a) (by omega)
  have h2 := fi_le (m := b) (by omega)
  rw [addV_num (add_exact (by omega) (by omega)), mg_fi (by omega), mg_fi (by omega), ← Nat.add_mul]
  rfl
def sumN (l : List Nat) : Nat := l.foldl (· + ·) 0
theorem sumN_snoc (l : List Nat) (x : Nat) : sumN (l ++ [x]) = sumN l + x := by simp [sumN]
theorem sumC_fi (r : List Nat) (h : sumN r.reverse < 9007199254740992) : sumC (r.reverse.map fi) = fi (sumN r.reverse) := by
  induction r with
  | nil => exact fi_zero.symm
  | cons x r ih =>
    rw [List.reverse_cons, sumN_snoc] at h ⊢
    rw [List.map_append, List.map_cons, List.map_nil, sumC_snoc, ih (by omega), addV_fi h]
theorem sumN_le {t : Nat} (r : List Nat) (h : ∀ x ∈ r, x ≤ t) : sumN r.reverse ≤ r.length * t := by
  induction r with
  | nil => exact Nat.zero_le _
  | cons x r ih =>
    have h1 := ih fun y hy => h y (by simp [hy])
    have h2 := h x (by simp)
    rw [List.reverse_cons, sumN_snoc, List.length_cons, Nat.add_mul]
    omega
theorem quot_le {s n t u : Nat} (hu : 0 < u) (h0 : 0 < n) (h : s ≤ n * t) : rq (s * u * u) (n * u) ≤ rq (t * u) 1 := by
  refine rq_mono (Nat.mul_pos h0 hu) (by omega) ?_
  have e1 : s * u * u * 1 = s * (u * u) := by rw [Nat.mul_one, Nat.mul_assoc]
  have e2 : t * u * (n * u) = n * t * (u * u) := by
    rw [Nat.mul_assoc t, Nat.mul_comm n u, ← Nat.mul_assoc u u n, Nat.mul_comm (u * u) n, ← Nat.mul_assoc t n, Nat.mul_comm t n]
  rw [e1, e2]
  exact Nat.mul_le_mul_right _ h
theorem dv_gen {x y A B : Nat} (hx : mg x = A) (hy : mg y = B) (h2 : y < 9218868437227405312) : dv x y = rq (A * U1) B := by
  unfold dv
  rw [if_neg (by omega), hx, hy]
theorem divV_gen {x y s n t u : Nat} (hx : mg x = s * u) (hy : mg y = n * u) (h1 : x < 9218868437227405312) (h2 : y < 9218868437227405312) (h3 : 0 < y) (hu : 0 < u) (h0 : 0 < n) (h : s ≤ n * t) (he : U1 = u) :
    divV x y ≤ rq (t * u) 1 := by
  have hd : divV x y = dv x y := by
    unfold divV
    rw [div_right h1 (Nat.le_of_lt h2) h3]
  rw [hd, dv_gen hx hy h2, he]
  exact quot_le hu h0 h
theorem divV_fi {s n t : Nat} (hs : s < 9007199254740992) (hn : n < 9007199254740992) (h0 : 0 < n) (h : s ≤ n * t) : divV (fi s) (fi n) ≤ fi t := by
  have h1 := fi_le (m := s) hs
  have h2 := fi_le (m := n) hn
  have h3 := fi_pos (n := n) (by omega)
  have hm1 := mg_fi hs
  have hm2 := mg_fi hn
  have hu := U1_pos
  have hfe : fi t = rq (t * U1) 1 := rfl
  rw [hfe]
  clear hfe
  exact divV_gen hm1 hm2 (by omega) (by omega) (by omega) hu h0 h rfl
/-- The mean of whole numbers that t bounds: from nought to t. -/
theorem mean_fi {l : List Nat} {t : Nat} (hn : 0 < l.length) (hn2 : l.length ≤ 1000) (ht : t ≤ 1099511627776) (h : ∀ x ∈ l, x ≤ t) : meanV (l.map fi) ≤ fi t := by
  have h1 := sumN_le (t := t) l.reverse (by simpa using h)
  rw [List.reverse_reverse, List.length_reverse] at h1
  have h2 : sumN l < 9007199254740992 := by
    have : l.length * t ≤ 1000 * 1099511627776 := Nat.mul_le_mul hn2 ht
    omega
  have h3 := sumC_fi l.reverse (by rw [List.reverse_reverse]; exact h2)
  rw [List.reverse_reverse] at h3
  unfold meanV
  rw [if_neg (by rw [List.length_map]; omega), List.length_map, h3]
  exact divV_fi h2 (by omega) hn h1
theorem small_right {x : Nat} (h : x ≤ 4890909195324358656) : isNan x = false ∧ rk x = (x : Int) := by
  obtain ⟨h1, h2⟩ := rg_small (x := x) (by omega)
  refine ⟨?_, ?_⟩
  · unfold isNan
    rw [h1]
    simp
    omega
  · unfold rk
    rw [h2, h1]
    rfl
end Go.Proofs.YtkckncggiicciaaDoor
