/-
  The order of floats by their keys: what the greater one, a span, a sum are, in plain Lean.
-/
import Derived.Test.YtdcjbodkcldpbaaDoorClamp
namespace Go.Proofs.YtdcjbodkcldpbaaDoor
theorem less_t {x y : Nat} (h : key x < key y) : lessB x y = true := by unfold lessB; exact decide_eq_true h
theorem less_f {x y : Nat} (h : key y ≤ key x) : lessB x y = false := by unfold lessB; exact decide_eq_false (by omega)
theorem same_t {x y : Nat} (h : key x = key y) : sameB x y = true := by unfold sameB; exact decide_eq_true h
theorem same_f {x y : Nat} (h : key x ≠ key y) : sameB x y = false := by unfold sameB; exact decide_eq_false h
theorem less_iff (x y : Nat) : lessB x y = true ↔ key x < key y := by unfold lessB; exact decide_eq_true_iff
theorem key_canon (x : Nat) : key (canon x) = key x := by
  unfold canon
  split
  · rename_i h
    rw [key_nan h]
    decide
  · rfl
theorem key_theNaN : key 9221120237041090561 = 9221120237041090561 := by decide
theorem key_max (a b : Nat) : key (maxV a b) = max (key a) (key b) := by
  have h1 := key_le a
  have h2 := key_le b
  unfold maxV
  split
  · rename_i h
    rw [key_theNaN]
    rcases h with h | h
    · rw [key_nan h] at *; omega
    · rw [key_nan h] at *; omega
  · split
    · rename_i h
      have := (less_iff a b).1 h
      omega
    · rename_i h
      have : ¬ key a < key b := fun h' => h ((less_iff a b).2 h')
      omega
theorem key_clamp (x lo hi : Nat) : key (clampV x lo hi) = if key x = 9221120237041090561 ∨ key x < key lo then key lo else if key hi < key x then key hi else key x := by
  unfold clampV
  have e : (isNan x = true ∨ lessB x lo = true) ↔ (key x = 9221120237041090561 ∨ key x < key lo) := by
    rw [less_iff]
    constructor
    · rintro (h | h)
      · exact .inl (key_nan h)
      · exact .inr h
    · rintro (h | h)
      · left
        cases hn : isNan x
        · have := key_lt_nan hn
          omega
        · rfl
      · exact .inr h
  by_cases h : key x = 9221120237041090561 ∨ key x < key lo
  · rw [if_pos h, if_pos (e.2 h), key_canon]
  · rw [if_neg h, if_neg (fun h' => h (e.1 h'))]
    by_cases h2 : key hi < key x
    · rw [if_pos h2, if_pos ((less_iff _ _).2 h2), key_canon]
    · rw [if_neg h2, if_neg (fun h' => h2 ((less_iff _ _).1 h'))]
theorem not_nan_of_less {x y : Nat} (h : lessB x y = true) : isNan x = false := by
  cases hn : isNan x
  · rfl
  · rw [less_nan y hn] at h; cases h
theorem not_nan_of_key {x : Nat} (h : key x < 9221120237041090561) : isNan x = false := by
  cases hn : isNan x
  · rfl
  · rw [key_nan hn] at h; omega
theorem rk_of_key {x y : Nat} (hx : isNan x = false) (hy : isNan y = false) (h : key x ≤ key y) : rk x ≤ rk y := by
  rw [key_num hx, key_num hy] at h
  unfold rk
  split at h <;> split at h <;> simp_all <;> omega
theorem key_of_rk {x y : Nat} (hx : isNan x = false) (hy : isNan y = false) (h : rk x < rk y) : key x < key y := by
  rw [key_num hx, key_num hy]
  unfold rk at h
  split at h <;> split at h <;> simp_all <;> omega
/-- A number that is smaller stands ahead; what stands ahead is not greater. -/
theorem lt_key {x y : Nat} (h : lessB x y = false) : (FloatKind.f64.format.order x y == some Ordering.lt) = false := by
  rw [cmp_lt]
  cases hx : isNan x
  · cases hy : isNan y
    · simp
      have h1 : ¬ key x < key y := fun h' => by rw [less_t h'] at h; cases h
      have h2 : ¬ rk x < rk y := fun h' => h1 (key_of_rk hx hy h')
      omega
    · simp
  · simp
theorem gt_key {x y : Nat} (h : lessB x y = true) : (FloatKind.f64.format.order x y == some Ordering.gt) = false := by
  rw [cmp_gt]
  have hx := not_nan_of_less h
  cases hy : isNan y
  · rw [hx]
    simp
    exact rk_of_key hx hy (Int.le_of_lt ((less_iff _ _).1 h))
  · simp
end Go.Proofs.YtdcjbodkcldpbaaDoor
