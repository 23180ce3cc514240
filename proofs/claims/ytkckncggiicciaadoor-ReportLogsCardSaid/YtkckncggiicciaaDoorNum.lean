/-
  The walks of Go's float helpers, and of num.
-/
import Derived.Test.YtkckncggiicciaaDoorFmul
import Derived.Test.YtkckncggiicciaaDoorMemg
import Derived.WalkSpells
import Derived.WalkLawsBesides
namespace Go.Proofs.YtkckncggiicciaaDoor
open Go.RowKit
/-! ### Comparisons, as the walk spells them -/
theorem fmt64 : FloatKind.f64.format = Ieee.double := rfl
theorem cmp_ne_self (x : Nat) : (FloatKind.f64.format.order x x != some Ordering.eq) = isNan x := by
  rw [fmt64]
  unfold isNan
  by_cases h : 9218868437227405312 < rg x
  · rw [order_nan (.inl h)]; simp [h]
  · rw [order_num (by omega) (by omega)]; simp [h, ord3]
theorem cmp_lt (x y : Nat) : (FloatKind.f64.format.order x y == some Ordering.lt) = (!isNan x && !isNan y && decide (rk x < rk y)) := by
  rw [fmt64]
  unfold isNan
  by_cases h : 9218868437227405312 < rg x ∨ 9218868437227405312 < rg y
  · rw [order_nan h]
    rcases h with h | h <;> simp [h]
  · rw [order_num (by omega) (by omega)]
    have h1 : ¬ 9218868437227405312 < rg x := by omega
    have h2 : ¬ 9218868437227405312 < rg y := by omega
    simp only [h1, h2, decide_false, Bool.not_false, Bool.true_and]
    unfold ord3
    by_cases h3 : rk x < rk y
    · simp [h3]
    · by_cases h4 : rk x = rk y <;> simp [h3, h4]
theorem cmp_eq (x y : Nat) : (FloatKind.f64.format.order x y == some Ordering.eq) = (!isNan x && !isNan y && decide (rk x = rk y)) := by
  rw [fmt64]
  unfold isNan
  by_cases h : 9218868437227405312 < rg x ∨ 9218868437227405312 < rg y
  · rw [order_nan h]
    rcases h with h | h <;> simp [h]
  · rw [order_num (by omega) (by omega)]
    have h1 : ¬ 9218868437227405312 < rg x := by omega
    have h2 : ¬ 9218868437227405312 < rg y := by omega
    simp only [h1, h2, decide_false, Bool.not_false, Bool.true_and]
    unfold ord3
    by_cases h3 : rk x < rk y
    · have : rk x ≠ rk y := by omega
      simp [h3, this]
    · by_cases h4 : rk x = rk y <;> simp [h3, h4]
theorem cmp_gt (x y : Nat) : (FloatKind.f64.format.order x y == some Ordering.gt) = (!isNan x && !isNan y && decide (rk y < rk x)) := by
  rw [fmt64]
  unfold isNan
  by_cases h : 9218868437227405312 < rg x ∨ 9218868437227405312 < rg y
  · rw [order_nan h]
    rcases h with h | h <;> simp [h]
  · rw [order_num (by omega) (by omega)]
    have h1 : ¬ 9218868437227405312 < rg x := by omega
    have h2 : ¬ 9218868437227405312 < rg y := by omega
    simp only [h1, h2, decide_false, Bool.not_false, Bool.true_and]
    unfold ord3
    by_cases h3 : rk x < rk y
    · have : ¬ rk y < rk x := by omega
      simp [h3, this]
    · by_cases h4 : rk x = rk y
      · simp [h4]
      · have : rk y < rk x := by omega
        simp [h3, h4, this]
/-! ### Operations that have no answer: any NaN -/
def nanOf (w : World) (x y : Nat) : Nat := (Question.nanBits .f64 x y).cut (w.tape w.drawn (.nanBits .f64 x y))
theorem nanOf_nan (w : World) (x y : Nat) : isNan (nanOf w x y) = true ∧ nanOf w x y < 18446744073709551616 := by
  unfold nanOf Question.cut isNan rg
  generalize w.tape w.drawn (.nanBits .f64 x y) = t
  have e1 : (2 : Nat) ^ 63 = 9223372036854775808 := rfl
  have e2 : (2 : Nat) ^ 52 - 1 = 4503599627370495 := rfl
  simp only [decide_eq_true_eq, e1, e2]
  have h1 : t % 2 < 2 := Nat.mod_lt _ (by omega)
  have h2 : t / 2 % 4503599627370495 < 4503599627370495 := Nat.mod_lt _ (by omega)
  generalize t % 2 = a at *
  generalize t / 2 % 4503599627370495 = b at *
  omega
theorem run_float_nan {P : Program} (w : World) (op : BinOp) (t : TypeId) (x y : Nat) (hop : op = .add ∨ op = .sub ∨ op = .mul ∨ op = .quo) (h : floatBits op .f64 x y = none) :
    (binOp op t (.float .f64 x) (.float .f64 y)).run P w = .ok (.float .f64 (nanOf w x y)) w.drew := by
  unfold floatBits at h
  rcases hop with rfl | rfl | rfl | rfl <;> simp only at h <;> (simp [binOp, Op.floatArith, h, choose, Sem.run, Question.forced, nanOf]; try rfl)
/-- The one NaN for every NaN. -/
def canon (x : Nat) : Nat := if isNan x then 9221120237041090561 else x
def key (x : Nat) : Int := if isNan x then 9221120237041090561 else if sg x then -(rg x : Int) - 1 else rg x
def lessB (a b : Nat) : Bool := decide (key a < key b)
def sameB (a b : Nat) : Bool := decide (key a = key b)
theorem isNan_false {x : Nat} (h : isNan x = false) : rg x ≤ 9218868437227405312 := by
  unfold isNan at h
  simp at h
  exact h
theorem isNan_true {x : Nat} (h : isNan x = true) : 9218868437227405312 < rg x := by
  unfold isNan at h
  simpa using h
theorem key_le (x : Nat) : key x ≤ 9221120237041090561 := by
  unfold key
  cases h : isNan x
  · have := isNan_false h
    simp only [Bool.false_eq_true, if_false]
    split <;> omega
  · simp
theorem less_nan {a : Nat} (b : Nat) (h : isNan a = true) : lessB a b = false := by
  have := key_le b
  unfold lessB
  have e : key a = 9221120237041090561 := by unfold key; rw [h]; rfl
  rw [e]
  simp
  omega
theorem key_num {a : Nat} (h : isNan a = false) : key a = if sg a then -(rg a : Int) - 1 else rg a := by
  unfold key
  rw [h]
  rfl
theorem key_lt_nan {a : Nat} (h : isNan a = false) : key a < 9221120237041090561 := by
  have := isNan_false h
  rw [key_num h]
  split <;> omega
theorem key_nan {a : Nat} (h : isNan a = true) : key a = 9221120237041090561 := by unfold key; rw [h]; rfl
theorem less_by_nan {a b : Nat} (h : isNan a = false) (hb : isNan b = true) : lessB a b = true := by
  have := key_lt_nan h
  unfold lessB
  rw [key_nan hb]
  simpa using this
theorem less_eq {a b : Nat} (ha : isNan a = false) (hb : isNan b = false) (h : rk a = rk b) : lessB a b = (sg a && !sg b) := by
  unfold lessB
  rw [key_num ha, key_num hb]
  unfold rk at h
  cases sg a <;> cases sg b <;> simp at h ⊢ <;> omega
theorem less_ne {a b : Nat} (ha : isNan a = false) (hb : isNan b = false) (h : rk a ≠ rk b) : lessB a b = decide (rk a < rk b) := by
  unfold lessB
  rw [key_num ha, key_num hb]
  unfold rk at h ⊢
  cases sg a <;> cases sg b <;> simp at h ⊢ <;> omega
theorem canon_lt {x : Nat} (h : x < 18446744073709551616) : canon x < 18446744073709551616 := by unfold canon; split <;> omega
theorem canon_key {x : Nat} (h : x < 18446744073709551616) : (canon x : Int) = if 0 ≤ key x then key x else 9223372036854775807 - key x := by
  cases hx : isNan x
  · have e : canon x = x := by unfold canon; rw [hx]; rfl
    rw [e, key_num hx]
    have := wd_self h
    have := isNan_false hx
    unfold wd at *
    cases h1 : sg x <;> simp [h1] at * <;> omega
  · rw [key_nan hx]
    unfold canon
    rw [hx]
    rfl
theorem same_canon {a b : Nat} (ha : a < 18446744073709551616) (hb : b < 18446744073709551616) : sameB a b = decide (canon a = canon b) := by
  unfold sameB
  have h1 := canon_key ha
  have h2 := canon_key hb
  have h3 := key_le a
  have h4 := key_le b
  by_cases h : key a = key b
  · rw [h] at h1
    have : canon a = canon b := by omega
    simp [h, this]
  · have : canon a ≠ canon b := by
      intro e
      rw [e] at h1
      split at h1 <;> split at h2 <;> omega
    simp [h, this]
/-- From nought to infinity, and not minus nought. -/
def rightB (x : Nat) : Bool := !isNan x && !sg x
theorem cmp_ge (x y : Nat) : (FloatKind.f64.format.order x y == some Ordering.gt || FloatKind.f64.format.order x y == some Ordering.eq) = (!isNan x && !isNan y && decide (rk y ≤ rk x)) := by
  rw [cmp_gt, cmp_eq, Bool.eq_iff_iff]
  cases isNan x <;> cases isNan y <;> simp
  omega
theorem cmp_le (x y : Nat) : (FloatKind.f64.format.order x y == some Ordering.lt || FloatKind.f64.format.order x y == some Ordering.eq) = (!isNan x && !isNan y && decide (rk x ≤ rk y)) := by
  rw [cmp_lt, cmp_eq, Bool.eq_iff_iff]
  cases isNan x <;> cases isNan y <;> simp
  omega
theorem rk_zero : rk 0 = 0 := rfl
theorem right_eq (x : Nat) : rightB x = ((!isNan x && decide (0 ≤ rk x)) && !sg x) := by
  unfold rightB rk
  cases isNan x <;> cases sg x <;> simp
end Go.Proofs.YtkckncggiicciaaDoor
