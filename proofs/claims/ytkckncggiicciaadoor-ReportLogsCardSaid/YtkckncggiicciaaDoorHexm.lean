/-
  Hexadecimal digits in plain Lean.
-/
import Derived.Laws.FloatArith
namespace Go.Proofs.YtkckncggiicciaaDoor
/-- A digit of sixteen. -/
def hexd (n : Nat) : UInt8 := UInt8.ofNat (if n < 10 then 48 + n else 87 + n)
/-- So many digits of a number, the highest first. -/
def hexL : Nat → Nat → List UInt8
  | 0, _ => []
  | k + 1, n => hexL k (n / 16) ++ [hexd (n % 16)]
theorem hexL_succ (k n : Nat) : hexL (k + 1) n = hexL k (n / 16) ++ [hexd (n % 16)] := rfl
theorem hexL_len (k n : Nat) : (hexL k n).length = k := by
  induction k generalizing n with
  | zero => rfl
  | succ k ih => rw [hexL_succ, List.length_append, ih]; rfl
theorem hexL_zero (k : Nat) : hexL k 0 = List.replicate k 48 := by
  induction k with
  | zero => rfl
  | succ k ih => rw [hexL_succ, Nat.zero_div, ih, List.replicate_succ']; rfl
theorem hexL_pad (k j n : Nat) (h : n < 16 ^ j) : hexL (k + j) n = List.replicate k 48 ++ hexL j n := by
  induction j generalizing n with
  | zero =>
    have : n = 0 := by simpa using h
    subst this
    rw [Nat.add_zero, hexL_zero]
    simp [hexL]
  | succ j ih =>
    rw [← Nat.add_assoc, hexL_succ, hexL_succ, ih (n / 16) (by rw [Nat.pow_succ] at h; omega), List.append_assoc]
theorem hexL_cons (j n : Nat) : hexL (j + 1) n = hexd (n / 16 ^ j % 16) :: hexL j n := by
  induction j generalizing n with
  | zero => simp [hexL]
  | succ j ih =>
    rw [hexL_succ, ih, hexL_succ j n, Nat.div_div_eq_div_mul, Nat.pow_succ, Nat.mul_comm (16 ^ j) 16]
    rfl
theorem hexd_toNat {n : Nat} (h : n < 16) : (hexd n).toNat = if n < 10 then 48 + n else 87 + n := by
  unfold hexd
  split
  · rw [UInt8.toNat_ofNat']; omega
  · rw [UInt8.toNat_ofNat']; omega
/-- A digit's worth; -1: it is none. -/
def digV (c : UInt8) : Int := if 48 ≤ c.toNat ∧ c.toNat ≤ 57 then (c.toNat : Int) - 48 else if 97 ≤ c.toNat ∧ c.toNat ≤ 102 then (c.toNat : Int) - 87 else -1
theorem digV_bd (c : UInt8) : -1 ≤ digV c ∧ digV c ≤ 15 := by
  unfold digV
  split
  · omega
  · split <;> omega
theorem digV_hexd {n : Nat} (h : n < 16) : digV (hexd n) = n := by
  unfold digV
  rw [hexd_toNat h]
  by_cases h1 : n < 10
  · rw [if_pos h1, if_pos (by omega)]; omega
  · rw [if_neg h1, if_neg (by omega), if_pos (by omega)]; omega
theorem hexd_digV {c : UInt8} (h : 0 ≤ digV c) : hexd (digV c).toNat = c := by
  apply UInt8.toNat_inj.1
  have hb := digV_bd c
  rw [hexd_toNat (by omega)]
  unfold digV at h ⊢
  split at h
  · rename_i h1
    rw [if_pos h1]
    split <;> omega
  · rename_i h1
    rw [if_neg h1]
    split at h
    · rename_i h2
      rw [if_pos h2]
      split <;> omega
    · omega
/-- All of these are digits. -/
def allD (l : List UInt8) : Bool := l.all fun c => decide (0 ≤ digV c)
/-- What digits are worth. -/
def valD (l : List UInt8) : Nat := l.foldl (fun a c => a * 16 + (digV c).toNat) 0
theorem valD_snoc (l : List UInt8) (c : UInt8) : valD (l ++ [c]) = valD l * 16 + (digV c).toNat := by simp [valD]
theorem allD_snoc (l : List UInt8) (c : UInt8) : allD (l ++ [c]) = (allD l && decide (0 ≤ digV c)) := by simp [allD]
theorem valD_lt (l : List UInt8) : valD l < 16 ^ l.length := by
  rw [← List.reverse_reverse l]
  induction l.reverse with
  | nil => decide
  | cons c r ih =>
    rw [List.reverse_cons, valD_snoc, List.length_append, Nat.pow_add]
    have := digV_bd c
    simp only [List.length_singleton, Nat.pow_one]
    omega
theorem hexL_allD (k n : Nat) : allD (hexL k n) = true := by
  induction k generalizing n with
  | zero => rfl
  | succ k ih =>
    rw [hexL_succ, allD_snoc, ih, digV_hexd (Nat.mod_lt _ (by omega))]
    simp
    omega
theorem valD_hexL (k n : Nat) : valD (hexL k n) = n % 16 ^ k := by
  induction k generalizing n with
  | zero => simp [hexL, valD, Nat.mod_one]
  | succ k ih =>
    rw [hexL_succ, valD_snoc, ih, digV_hexd (Nat.mod_lt _ (by omega)), Int.toNat_natCast, Nat.pow_succ, Nat.mul_comm (16 ^ k) 16, Nat.mod_mul]
    omega
theorem hexL_valR (r : List UInt8) (h : allD r.reverse = true) : hexL r.reverse.length (valD r.reverse) = r.reverse := by
  induction r with
  | nil => rfl
  | cons c r ih =>
    rw [List.reverse_cons, allD_snoc] at h
    simp only [Bool.and_eq_true, decide_eq_true_eq] at h
    have hb := digV_bd c
    rw [List.reverse_cons, valD_snoc, List.length_append, List.length_singleton, hexL_succ]
    have e1 : (valD r.reverse * 16 + (digV c).toNat) / 16 = valD r.reverse := by omega
    have e2 : (valD r.reverse * 16 + (digV c).toNat) % 16 = (digV c).toNat := by omega
    rw [e1, e2, ih h.1, hexd_digV h.2]
theorem hexL_valD {l : List UInt8} (h : allD l = true) : hexL l.length (valD l) = l := by
  have := hexL_valR l.reverse (by rwa [List.reverse_reverse])
  rwa [List.reverse_reverse] at this
/-- The digits' constant. -/
theorem hexd_at : ∀ n : Nat, n < 16 → [48, 49, 50, 51, 52, 53, 54, 55, 56, 57, 97, 98, 99, 100, 101, 102][n]? = some (hexd n).toNat := by decide
end Go.Proofs.YtkckncggiicciaaDoor
