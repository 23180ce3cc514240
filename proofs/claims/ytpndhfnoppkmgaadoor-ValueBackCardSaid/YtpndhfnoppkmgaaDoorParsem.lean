/-
  What a float's sixteen digits are read as: in plain Lean.
-/
import Derived.Test.YtpndhfnoppkmgaaDoorPuint
namespace Go.Proofs.YtpndhfnoppkmgaaDoor
theorem dg_dig {c : UInt8} (h : 0 ≤ digV c) : dgV c.toNat = (digV c).toNat ∧ dgV c.toNat < 16 := by
  have key : ∀ n : Nat, n < 256 → (0 ≤ digV (UInt8.ofNat n)) → dgV n = (digV (UInt8.ofNat n)).toNat ∧ dgV n < 16 := by decide +kernel
  have := key c.toNat c.toNat_lt (by rw [UInt8.ofNat_toNat]; exact h)
  rwa [UInt8.ofNat_toNat] at this
theorem pF_good_r (r : List UInt8) (h : allD r.reverse = true) (hl : r.reverse.length ≤ 16) : pF r.reverse = some (valD r.reverse) := by
  induction r with
  | nil => rfl
  | cons c r ih =>
    rw [List.reverse_cons, allD_snoc] at h
    simp only [Bool.and_eq_true, decide_eq_true_eq] at h
    rw [List.reverse_cons, List.length_append, List.length_singleton] at hl
    obtain ⟨h1, h2⟩ := dg_dig h.2
    have hv := valD_lt r.reverse
    have hp : 16 ^ r.reverse.length ≤ 16 ^ 15 := Nat.pow_le_pow_right (by omega) (by omega)
    rw [List.reverse_cons, pF_snoc, ih h.1 (by omega), valD_snoc]
    unfold pStep
    dsimp only
    rw [if_neg (by omega), if_neg (by omega), h1]
theorem pF_good {l : List UInt8} (h : allD l = true) (hl : l.length ≤ 16) : pF l = some (valD l) := by
  have := pF_good_r l.reverse (by rwa [List.reverse_reverse]) (by rwa [List.reverse_reverse])
  rwa [List.reverse_reverse] at this
/-- Is it a float's text? -/
def parseOk (l : List UInt8) : Bool := l.length == 16 && (allD l && (canon (valD l) == valD l))
def parseN (l : List UInt8) : Nat := if parseOk l = true then valD l else 0
def parseE (l : List UInt8) : Int := if parseOk l = true then 0 else 3
theorem parseOk_iff {l : List UInt8} : parseOk l = true ↔ l.length = 16 ∧ allD l = true ∧ canon (valD l) = valD l := by
  unfold parseOk
  simp
theorem valD_16 {l : List UInt8} (h : l.length = 16) : valD l < 18446744073709551616 := by
  have := valD_lt l
  rw [h] at this
  exact this
theorem parseN_lt (l : List UInt8) : parseN l < 18446744073709551616 := by
  unfold parseN
  split
  · rename_i h
    exact valD_16 (parseOk_iff.1 h).1
  · omega
/-- A float's text is a float's text. -/
theorem parse_text {x : Nat} (hx : x < 18446744073709551616) : parseOk (hexL 16 (canon x)) = true ∧ valD (hexL 16 (canon x)) = canon x := by
  have hc := canon_lt hx
  have hv : valD (hexL 16 (canon x)) = canon x := by
    rw [valD_hexL]
    exact Nat.mod_eq_of_lt hc
  refine ⟨parseOk_iff.2 ⟨hexL_len _ _, hexL_allD _ _, ?_⟩, hv⟩
  rw [hv]
  unfold canon
  cases h : isNan x
  · simp [h]
  · simp [nan_nan]
/-- .. and leads back to it. -/
theorem text_parse {l : List UInt8} (h : parseOk l = true) : hexL 16 (canon (valD l)) = l := by
  obtain ⟨h1, h2, h3⟩ := parseOk_iff.1 h
  rw [h3, ← h1]
  exact hexL_valD h2
theorem read_ok {l : List UInt8} (h : parseOk l = true) : puV l = some (valD l) := by
  obtain ⟨h1, h2, h3⟩ := parseOk_iff.1 h
  unfold puV
  rw [if_neg (by rintro rfl; simp at h1)]
  exact pF_good h2 (by omega)
theorem read_back {l : List UInt8} {v : Nat} (h : puV l = some v) (hv : v < 18446744073709551616) (ht : hexL 16 (canon v) = l) : parseOk l = true ∧ valD l = v := by
  have h1 : puV l = some (valD l) := by
    unfold puV
    rw [if_neg (by rintro rfl; have := congrArg List.length ht; rw [hexL_len] at this; simp at this)]
    exact pF_good (by rw [← ht]; exact hexL_allD _ _) (by rw [← ht, hexL_len]; omega)
  rw [h] at h1
  injection h1 with h1
  refine ⟨?_, h1.symm⟩
  rw [← ht]
  exact (parse_text hv).1
end Go.Proofs.YtpndhfnoppkmgaaDoor
