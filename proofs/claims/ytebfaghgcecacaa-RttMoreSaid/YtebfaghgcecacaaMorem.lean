/-
  What is known stays right; a greater time leads to no lesser mean, a longer mean to no shorter wait: in plain Lean.
-/
import Derived.Test.YtebfaghgcecacaaSteady
namespace Go.Proofs.Ytebfaghgcecacaa
open Go.RowKit
theorem note_right {m v x : Nat} (hn : noteB m v x = true) :
    (noteV m v x).1 ≤ 9218868437227405312 ∧ (noteV m v x).2 ≤ 9218868437227405312 := by
  unfold noteB at hn
  obtain ⟨hc, nx, hk⟩ : chk m v = true ∧ isNan x = false ∧ 0 ≤ rk x := by simpa using hn
  have hr := isNan_false nx
  unfold noteV
  split
  · exact ⟨hr, half_le⟩
  · exact ⟨smooth_le _ _ _, smooth_le _ _ _⟩
theorem chk_le {m v : Nat} (hm : m < 18446744073709551616) (hv : v < 18446744073709551616) (hc : chk m v = true) (nm : isNan m = false) : m ≤ 9218868437227405312 ∧ v ≤ 9218868437227405312 := by
  obtain ⟨r1, r2⟩ := right_not hc nm
  exact ⟨right_le r1 hm, right_le r2 hv⟩
theorem ticks_in {x : Nat} {lo hi : Int} (h : lo ≤ hi) : lo ≤ ticksV x lo hi ∧ ticksV x lo hi ≤ hi := by
  unfold ticksV
  rw [if_neg (by omega)]
  split
  · omega
  · split
    · omega
    · omega
theorem tout_in {m v : Nat} {lo hi : Int} (h : lo ≤ hi) : lo ≤ toutV m v lo hi ∧ toutV m v lo hi ≤ hi := by
  unfold toutV
  split
  · omega
  · exact ticks_in h
theorem ticks_mono {x y : Nat} {lo hi : Int} (hx : isNan x = false) (hy : isNan y = false) (h : rk x ≤ rk y) : ticksV x lo hi ≤ ticksV y lo hi := by
  have hc := ceil_mono hx hy h
  unfold ticksV
  split
  · omega
  · split
    · split
      · omega
      · split <;> omega
    · rw [if_neg (show ¬ rk (ceilW y) < -4890909195324358656 by omega)]
      split
      · rw [if_pos (show 4890909195324358656 ≤ rk (ceilW y) by omega)]
        exact Int.le_refl _
      · split
        · omega
        · have h1 := cutI_bd (x := ceilW x) (by omega) (by omega)
          have h2 := cutI_bd (x := ceilW y) (by omega) (by omega)
          have h3 := cutI_mono h1.1 h2.1 hc
          omega
/-- What a step gives, by its rung. -/
theorem smooth_val {was is c s t x : Nat} (h1 : Ieee.double.sub is was = some s) (h2 : Ieee.double.div s c = some t) (h3 : Ieee.double.add was t = some x) : (smoothV was is c : Int) = max (rk x) 0 := by
  rw [smooth_of h1 h2 h3]
  obtain ⟨nx, lx⟩ := add_ok h3
  cases hr : rightB x
  · have hs : sg x = true := by
      unfold rightB at hr
      rw [nx] at hr
      simpa using hr
    simp only [Bool.false_eq_true, if_false]
    unfold rk
    rw [hs]
    simp only [if_true]
    omega
  · rw [if_pos rfl, rk_of_right lx hr]
    omega
theorem sr_bd {a b : Nat} (ha : a < 9218868437227405312) (hb : b < 9218868437227405312) : -9218868437227405312 < sr ((mg a : Int) - mg b) ∧ sr ((mg a : Int) - mg b) < 9218868437227405312 := by
  have h1 := sr_mono (show (mg a : Int) - mg b ≤ mg a by omega)
  have h2 := sr_mono (show -(mg b : Int) ≤ (mg a : Int) - mg b by omega)
  have e1 : sr (mg a : Int) = a := by
    have := sr_sv (x := a) (by rw [(rg_small (Nat.le_of_lt ha)).1]; omega)
    rwa [sv_small (by omega), rk_small (by omega)] at this
  have e2 : sr (-(mg b : Int)) = -(b : Int) := by
    unfold sr
    rw [Int.natAbs_neg, Int.natAbs_natCast, rq_mg1 (by omega)]
    by_cases h0 : b = 0
    · subst h0
      rw [mg_zero]
      rfl
    · have := mg_pos (r := b) (by omega) (by omega)
      rw [if_pos (by omega)]
  omega
theorem sv_le {x y : Nat} (hx : rg x ≤ 9218868437227405312) (hy : rg y ≤ 9218868437227405312) (h : rk x ≤ rk y) : sv x ≤ sv y := by
  have := sv_lt hy hx
  omega
theorem smooth_steps {m x : Nat} (hm : m < 9218868437227405312) (hx : x < 9218868437227405312) (c : Nat) (hc : c < 9218868437227405312) (hc1 : 4607182418800017408 ≤ c) :
    ∃ t, (smoothV m x c : Int) = max (sr (sv m + sv t)) 0 ∧ rg t < 9218868437227405312 ∧ rk t = qd (sr ((mg x : Int) - mg m)) c := by
  rcases sub_right (Nat.le_of_lt hx) (Nat.le_of_lt hm) with ⟨h1, _, _⟩ | ⟨r, h1, nr, lr, h4, _⟩
  · omega
  · rw [if_neg (by omega), if_neg (by omega)] at h4
    have hb := sr_bd hx hm
    have hfr : rg r < 9218868437227405312 := by unfold rk at h4; split at h4 <;> omega
    obtain ⟨t, h5, h6, h7, h8⟩ := div_rk (x := r) (y := c) hfr hc (by omega)
    have hq := qd_le (a := rk r) (y := c) (by omega) hc1 (by omega)
    have hft : rg t < 9218868437227405312 := by
      have h9 : -9218868437227405312 < rk t ∧ rk t < 9218868437227405312 := by
        rw [h8]
        by_cases h0 : 0 ≤ rk r
        · have := hq.1 h0
          omega
        · have := hq.2 (by omega)
          omega
      unfold rk at h9
      split at h9 <;> omega
    obtain ⟨y, h9, h10, h11, h12, _, _⟩ := rk_add (x := m) (y := t) (by rw [(rg_small (Nat.le_of_lt hm)).1]; exact hm) hft
    refine ⟨t, ?_, hft, by rw [h8, h4]⟩
    rw [smooth_val h1 h5 h9, h12]
/-- A greater time leads to no lesser mean. -/
theorem smooth_mono {m x y : Nat} (hm : m < 9218868437227405312) (hx : x < 9218868437227405312) (hy : y < 9218868437227405312) (h : x ≤ y) (c : Nat) (hc : c < 9218868437227405312) (hc1 : 4607182418800017408 ≤ c) :
    smoothV m x c ≤ smoothV m y c := by
  obtain ⟨t, h1, h2, h3⟩ := smooth_steps hm hx c hc hc1
  obtain ⟨u, g1, g2, g3⟩ := smooth_steps hm hy c hc hc1
  have hb1 := sr_bd hx hm
  have hb2 := sr_bd hy hm
  have hle : mg x ≤ mg y := mg_le (by omega) h
  have hs := sr_mono (show (mg x : Int) - mg m ≤ (mg y : Int) - mg m by omega)
  have hq := qd_mono (y := c) (by omega) (by omega) hs
  rw [← h3, ← g3] at hq
  have hsv := sv_le (by omega) (by omega) hq
  have := sr_mono (show sv m + sv t ≤ sv m + sv u by omega)
  omega
theorem add_mono {a b f : Nat} (ha : a ≤ 9218868437227405312) (hb : b ≤ 9218868437227405312) (hf : f ≤ 9218868437227405312) (h : a ≤ b) {r s : Nat} (h1 : Ieee.double.add a f = some r) (h2 : Ieee.double.add b f = some s) : r ≤ s := by
  obtain ⟨r', e1, l1, _, k1⟩ := add_right ha hf
  obtain ⟨s', e2, l2, k2, k3⟩ := add_right hb hf
  rw [h1] at e1
  rw [h2] at e2
  injection e1 with e1
  injection e2 with e2
  subst e1 e2
  by_cases ib : b = 9218868437227405312
  · omega
  by_cases jf : f = 9218868437227405312
  · omega
  have ga := rg_small ha
  have gb := rg_small hb
  have gf := rg_small hf
  obtain ⟨x, x1, x2, x3, x4, _, _⟩ := rk_add (x := a) (y := f) (by omega) (by omega)
  obtain ⟨y, y1, y2, y3, y4, _, _⟩ := rk_add (x := b) (y := f) (by omega) (by omega)
  rw [h1] at x1
  rw [h2] at y1
  injection x1 with x1
  injection y1 with y1
  subst x1 y1
  rw [rk_small l1, sv_small ha, sv_small hf] at x4
  rw [rk_small l2, sv_small hb, sv_small hf] at y4
  have := mg_le hb h
  have := sr_mono (show (mg a : Int) + mg f ≤ (mg b : Int) + mg f by omega)
  omega
/-- A longer mean leads to no shorter wait. -/
theorem tout_mono {a b v : Nat} {lo hi : Int} (ha : a ≤ 9218868437227405312) (hb : b ≤ 9218868437227405312) (h : a ≤ b) : toutV a v lo hi ≤ toutV b v lo hi := by
  obtain ⟨e1, l1⟩ := wait_eq v ha
  obtain ⟨e2, l2⟩ := wait_eq v hb
  have hw := add_mono ha hb (four_le v) h e1 e2
  unfold toutV
  rw [(right_sg (right_small ha)).1, (right_sg (right_small hb)).1]
  simp only [Bool.false_eq_true, if_false]
  exact ticks_mono (right_sg (right_small l1)).1 (right_sg (right_small l2)).1 (by rw [rk_small l1, rk_small l2]; omega)
/-- A greater time leads to no lesser mean. -/
theorem note_mono {m v x y : Nat} (hm : m < 18446744073709551616) (hv : v < 18446744073709551616) (hx : noteB m v x = true) (hy : noteB m v y = true) (fm : isNan m = true ∨ rg m < 9218868437227405312)
    (fx : rg x < 9218868437227405312) (fy : rg y < 9218868437227405312) (h : rk x ≤ rk y) : (noteV m v x).1 ≤ (noteV m v y).1 := by
  unfold noteB at hx hy
  obtain ⟨hc, nx, kx⟩ : chk m v = true ∧ isNan x = false ∧ 0 ≤ rk x := by simpa using hx
  obtain ⟨_, ny, ky⟩ : chk m v = true ∧ isNan y = false ∧ 0 ≤ rk y := by simpa using hy
  have hxy : rg x ≤ rg y := by
    unfold rk at h kx ky
    split at h <;> split at h <;> simp_all <;> omega
  unfold noteV
  cases nm : isNan m
  · simp only [Bool.false_eq_true, if_false]
    obtain ⟨lm, _⟩ := chk_le hm hv hc nm
    have : m < 9218868437227405312 := by
      rcases fm with fm | fm
      · rw [nm] at fm; cases fm
      · rwa [(rg_small lm).1] at fm
    exact smooth_mono this fx fy hxy _ (by omega) (by omega)
  · simpa using hxy
end Go.Proofs.Ytebfaghgcecacaa
