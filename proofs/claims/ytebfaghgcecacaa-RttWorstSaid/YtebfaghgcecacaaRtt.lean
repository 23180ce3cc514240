/-
  The walks of math.Max and math.Ceil.
-/
import Derived.Test.YtebfaghgcecacaaSilent
import Derived.Test.YtebfaghgcecacaaFsub
namespace Go.Proofs.Ytebfaghgcecacaa
open Go.RowKit
/-! ### The greater one -/
def maxW (x y : Nat) : Nat := if lessB x y = true then y else x
def pickW (x y : Nat) : Nat :=
  let a := FloatKind.f64.decode x
  let b := FloatKind.f64.decode y
  if a == .infinity false || b == .infinity false then FloatKind.f64.encode (.infinity false)
  else if a.isNaN || b.isNaN then 0x7FF8000000000001
  else if a.isZero && b.isZero then (if a.neg == false then x else y)
  else if a.order b == some .gt then x else y
theorem call_pick (x y : Nat) (w : World) : (callFunc 65 #[.float .f64 x, .float .f64 y]).run Try.prog w = .ok (.value (.float .f64 (pickW x y))) w := by
  rw [run_callFunc_extern Try.func65 (by kernel_rfl) (by kernel_rfl) (by kernel_rfl) (e := Extern.MathDim.pick "math.archMax" false .gt) (by kernel_rfl)]
  rfl
theorem dec64 (x : Nat) : FloatKind.f64.decode x = Ieee.double.read x := rfl
theorem top_of {x : Nat} (hx : x < 18446744073709551616) (h1 : rg x = 9218868437227405312) (h2 : sg x = false) : x = 9218868437227405312 := by
  have := wd_self hx
  rw [h1, h2] at this
  exact this.symm
theorem key_top {x : Nat} (hx : isNan x = false) : key x ≤ 9218868437227405312 := by
  have := isNan_false hx
  rw [key_num hx]
  split <;> omega
theorem key_is_top {x : Nat} (lx : x < 18446744073709551616) (hx : isNan x = false) (h : key x = 9218868437227405312) : x = 9218868437227405312 := by
  have := isNan_false hx
  rw [key_num hx] at h
  cases hs : sg x <;> rw [hs] at h
  · have h' : (rg x : Int) = 9218868437227405312 := by simpa using h
    exact top_of lx (by omega) hs
  · simp at h; omega
theorem eq_of_key {x y : Nat} (lx : x < 18446744073709551616) (ly : y < 18446744073709551616) (hx : isNan x = false) (hy : isNan y = false) (h : key x = key y) : x = y := by
  rw [key_num hx, key_num hy] at h
  cases hs : sg x <;> cases ht : sg y <;> rw [hs, ht] at h <;> simp at h
  · exact eq_of_sg_rg lx ly (hs.trans ht.symm) (by omega)
  · omega
  · omega
  · exact eq_of_sg_rg lx ly (hs.trans ht.symm) (by omega)
theorem inf_beq {x : Nat} (lx : x < 18446744073709551616) : (Ieee.double.read x == Ieee.Datum.infinity false) = decide (x = 9218868437227405312) := by
  by_cases h : rg x < 9218868437227405312
  · obtain ⟨m, p, e, _⟩ := read_num h
    rw [e]
    have : x ≠ 9218868437227405312 := by rintro rfl; revert h; decide
    simp [this]
  · by_cases h2 : rg x = 9218868437227405312
    · rw [read_inf h2]
      cases hs : sg x
      · have := top_of lx h2 hs
        simp [this]
      · have : x ≠ 9218868437227405312 := by rintro rfl; revert hs; decide
        simp [this]
    · obtain ⟨t, e⟩ := read_nan (show 9218868437227405312 < rg x by omega)
      rw [e]
      have : x ≠ 9218868437227405312 := by rintro rfl; revert h2; decide
      simp [this]
theorem nan_read (x : Nat) : (Ieee.double.read x).isNaN = isNan x := by
  unfold isNan
  by_cases h : rg x < 9218868437227405312
  · obtain ⟨m, p, e, _⟩ := read_num h
    rw [e, decide_eq_false (by omega)]
    rfl
  · by_cases h2 : rg x = 9218868437227405312
    · rw [read_inf h2, decide_eq_false (by omega)]
      rfl
    · obtain ⟨t, e⟩ := read_nan (show 9218868437227405312 < rg x by omega)
      rw [e, decide_eq_true (by omega)]
      rfl
theorem zero_read {x : Nat} (hx : isNan x = false) : (Ieee.double.read x).isZero = decide (rg x = 0) := by
  have := isNan_false hx
  by_cases h : rg x < 9218868437227405312
  · obtain ⟨m, p, e, hm⟩ := read_num h
    rw [e]
    by_cases h0 : rg x = 0
    · rw [h0, mg_zero, Nat.mul_eq_zero] at hm
      have hm0 : m = 0 := hm.resolve_right (by have := Nat.two_pow_pos p; omega)
      rw [hm0, decide_eq_true h0]
      rfl
    · have hp := mg_pos (r := rg x) (by omega) (by omega)
      have hm0 : m ≠ 0 := by rintro rfl; rw [Nat.zero_mul] at hm; omega
      rw [decide_eq_false h0]
      cases m with
      | zero => exact absurd rfl hm0
      | succ m => rfl
  · rw [read_inf (by omega : rg x = 9218868437227405312), decide_eq_false (by omega)]
    rfl
theorem neg_read (x : Nat) : (Ieee.double.read x).neg = sg x := by
  by_cases h : rg x < 9218868437227405312
  · obtain ⟨m, p, e, _⟩ := read_num h
    rw [e]
    rfl
  · by_cases h2 : rg x = 9218868437227405312
    · rw [read_inf h2]
      rfl
    · obtain ⟨t, e⟩ := read_nan (show 9218868437227405312 < rg x by omega)
      rw [e]
      rfl
theorem pick_num {x y : Nat} (hx : isNan x = false) (hy : isNan y = false) (lx : x < 18446744073709551616) (ly : y < 18446744073709551616) : pickW x y = maxW x y := by
  unfold pickW maxW
  simp only [dec64, inf_beq lx, inf_beq ly, nan_read, zero_read hx, zero_read hy, neg_read, hx, hy, Bool.or_false, Bool.false_eq_true, if_false]
  by_cases h1 : x = 9218868437227405312
  · have : lessB x y = false := by
      have := key_top hy
      unfold lessB
      rw [h1, show key 9218868437227405312 = 9218868437227405312 by decide]
      simpa using this
    rw [this, if_pos (by simp [h1])]
    simp only [Bool.false_eq_true, if_false]
    rw [h1]
    rfl
  · by_cases h2 : y = 9218868437227405312
    · have : lessB x y = true := by
        have h3 := key_top hx
        have h4 : key x ≠ 9218868437227405312 := fun e => h1 (key_is_top lx hx e)
        unfold lessB
        rw [h2, show key 9218868437227405312 = 9218868437227405312 by decide]
        simp
        omega
      rw [this, if_pos (by simp [h2]), if_pos rfl, h2]
      rfl
    · rw [if_neg (by simp [h1, h2])]
      by_cases h3 : rk x = rk y
      · rw [less_eq hx hy h3]
        by_cases h0 : rg x = 0 ∧ rg y = 0
        · rw [if_pos (by simp [h0.1, h0.2])]
          cases hs : sg x <;> cases ht : sg y <;> simp
          exact eq_of_sg_rg ly lx (ht.trans hs.symm) (h0.2.trans h0.1.symm)
        · rw [if_neg (by simp; exact fun a b => h0 ⟨a, b⟩)]
          have he : x = y := by
            unfold rk at h3
            cases hs : sg x <;> cases ht : sg y <;> rw [hs, ht] at h3 <;> simp at h3
            · exact eq_of_sg_rg lx ly (hs.trans ht.symm) (by omega)
            · exfalso; apply h0; omega
            · exfalso; apply h0; omega
            · exact eq_of_sg_rg lx ly (hs.trans ht.symm) (by omega)
          rw [he]
          simp
      · have h0 : ¬ (rg x = 0 ∧ rg y = 0) := fun ⟨a, b⟩ => h3 (by unfold rk; rw [a, b]; simp)
        rw [if_neg (by simp; exact fun a b => h0 ⟨a, b⟩), less_ne hx hy h3]
        have ho := cmp_gt x y
        rw [hx, hy] at ho
        show (if (FloatKind.f64.format.order x y == some Ordering.gt) = true then x else y) = _
        rw [ho]
        by_cases h4 : rk x < rk y
        · have : ¬ rk y < rk x := by omega
          simp [h4, this]
        · have : rk y < rk x := by omega
          simp [h4, this]
theorem pick_nan {x y : Nat} (hx : isNan x = true) (hy : isNan y = true) (lx : x < 18446744073709551616) (ly : y < 18446744073709551616) : pickW x y = 9221120237041090561 := by
  unfold pickW
  have h1 : x ≠ 9218868437227405312 := by rintro rfl; revert hx; decide
  have h2 : y ≠ 9218868437227405312 := by rintro rfl; revert hy; decide
  simp only [dec64, inf_beq lx, inf_beq ly, nan_read, hx, hy, h1, h2, decide_false, Bool.or_false, Bool.false_eq_true, if_false, Bool.or_true, if_true]
set_option maxHeartbeats 400000 in
theorem Max_any (x y : Nat) (w : World) : Calls Try.prog 63 #[.float .f64 x, .float .f64 y] w fun e w' => e = .returned (.float .f64 (pickW x y)) ∧ w = w' := by
  have hc := call_pick x y
  go_enter Try.func63, Try.ntmps63
  go_wp2_with fail
  go_ret
  exact ⟨rfl, rfl⟩
/-! ### Rounding up -/
theorem ceil_run {P : Program} (d : Ieee.Datum) (x : Nat) (w : World) (hd : FloatKind.f64.decode x = d) :
    (Extern.MathFloor.toIntegral "math.archCeil" .up #[.float .f64 x]).run P w = Sem.run P (match d with
      | .nan s t => if FloatKind.f64.format.quiet t = t then pure (.float .f64 x) else do
        let kept ← choose (.extern "math.Floor,Ceil,Trunc,RoundToEven.signallingNaN kept" 2)
        pure (.float .f64 (if kept == 1 then x else FloatKind.f64.encode (.nan s (FloatKind.f64.format.quiet t))))
      | d => pure (.float .f64 (FloatKind.f64.encode (d.integral .up)))) w := by
  subst hd
  rfl
theorem call_ceil (x : Nat) (w : World) (hx : isNan x = false) (lx : x < 18446744073709551616) : (callFunc 67 #[.float .f64 x]).run Try.prog w = .ok (.value (.float .f64 (ceilW x))) w := by
  rw [run_callFunc_extern Try.func67 (by kernel_rfl) (by kernel_rfl) (by kernel_rfl) (e := Extern.MathFloor.toIntegral "math.archCeil" .up) (by kernel_rfl), ceil_run _ x w rfl]
  have hn := nan_read x
  rw [hx] at hn
  have he := ceil_enc hx lx
  rw [dec64] at he ⊢
  cases hd : Ieee.double.read x with
  | nan s t => rw [hd] at hn; cases hn
  | number s m p =>
    rw [hd] at he
    show Result.andThen (Sem.run Try.prog (pure (Value.float .f64 _)) w) _ = _
    rw [he]
    rfl
  | infinity s =>
    rw [hd] at he
    show Result.andThen (Sem.run Try.prog (pure (Value.float .f64 _)) w) _ = _
    rw [he]
    rfl
set_option maxHeartbeats 400000 in
theorem Ceil_num (x : Nat) (w : World) (hx : isNan x = false) (lx : x < 18446744073709551616) : Calls Try.prog 64 #[.float .f64 x] w fun e w' => e = .returned (.float .f64 (ceilW x)) ∧ w = w' := by
  have hc := fun w => call_ceil x w hx lx
  go_enter Try.func64, Try.ntmps64
  go_wp2_with fail
  go_ret
  exact ⟨rfl, rfl⟩
end Go.Proofs.Ytebfaghgcecacaa
