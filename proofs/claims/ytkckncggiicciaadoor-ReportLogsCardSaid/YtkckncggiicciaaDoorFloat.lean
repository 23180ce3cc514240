/-
  Doubles in plain Lean: their order is that of signed rungs; sums, products and quotients are roundings of the exact ones.
-/
import Derived.Test.YtkckncggiicciaaDoorRound
namespace Go.Proofs.YtkckncggiicciaaDoor
/-- A double's sign, its rung, its rung with the sign, its value in least numbers. -/
def sg (x : Nat) : Bool := x / 9223372036854775808 % 2 == 1
def rg (x : Nat) : Nat := x % 9223372036854775808
def isNan (x : Nat) : Bool := decide (9218868437227405312 < rg x)
def isFin (x : Nat) : Bool := decide (rg x < 9218868437227405312)
def rk (x : Nat) : Int := if sg x then -(rg x : Int) else rg x
def sv (x : Nat) : Int := if sg x then -(mg (rg x) : Int) else mg (rg x)
def wd (s : Bool) (r : Nat) : Nat := if s then 9223372036854775808 + r else r
theorem word_wd (s : Bool) (r : Nat) : Ieee.double.word s r = wd s r := rfl
theorem sg_wd {s : Bool} {r : Nat} (h : r < 9223372036854775808) : sg (wd s r) = s := by
  unfold sg wd
  cases s
  · simp; omega
  · simp; omega
theorem rg_wd {s : Bool} {r : Nat} (h : r < 9223372036854775808) : rg (wd s r) = r := by
  unfold rg wd
  cases s
  · simp; omega
  · simp; omega
theorem wd_lt {s : Bool} {r : Nat} (h : r < 9223372036854775808) : wd s r < 18446744073709551616 := by
  unfold wd
  cases s <;> simp <;> omega
theorem wd_self {x : Nat} (h : x < 18446744073709551616) : wd (sg x) (rg x) = x := by
  unfold wd sg rg
  by_cases h1 : x / 9223372036854775808 % 2 = 1
  · simp [h1]; omega
  · simp [h1]; omega
theorem eq_of_sg_rg {x y : Nat} (hx : x < 18446744073709551616) (hy : y < 18446744073709551616) (h1 : sg x = sg y) (h2 : rg x = rg y) : x = y := by
  rw [← wd_self hx, ← wd_self hy, h1, h2]
theorem read_num {x : Nat} (h : rg x < 9218868437227405312) : ∃ m p : Nat, Ieee.double.read x = .number (sg x) m (-1074 + (p : Int)) ∧ m * 2 ^ p = mg (rg x) := by
  unfold Ieee.Format.read
  have hlp : Ieee.double.leastPlace = -1074 := rfl
  have hbi : Ieee.double.binade = 4503599627370496 := rfl
  have hir : Ieee.double.infRung = 9218868437227405312 := rfl
  have hsw : Ieee.double.signWeight = 9223372036854775808 := rfl
  simp only [hlp, hbi, hir, hsw]
  have hr : x % 9223372036854775808 = rg x := rfl
  rw [hr]
  by_cases h1 : rg x < 4503599627370496
  · rw [if_pos h1]
    refine ⟨rg x, 0, rfl, ?_⟩
    unfold mg
    rw [if_pos h1]
    simp
  · rw [if_neg h1, if_pos h]
    refine ⟨_, _, rfl, ?_⟩
    unfold mg
    rw [if_neg h1]
theorem read_inf {x : Nat} (h : rg x = 9218868437227405312) : Ieee.double.read x = .infinity (sg x) := by
  unfold Ieee.Format.read
  have hlp : Ieee.double.leastPlace = -1074 := rfl
  have hbi : Ieee.double.binade = 4503599627370496 := rfl
  have hir : Ieee.double.infRung = 9218868437227405312 := rfl
  have hsw : Ieee.double.signWeight = 9223372036854775808 := rfl
  simp only [hlp, hbi, hir, hsw]
  have hr : x % 9223372036854775808 = rg x := rfl
  rw [hr, if_neg (by omega), if_neg (by omega), if_pos h]
  rfl
theorem read_nan {x : Nat} (h : 9218868437227405312 < rg x) : ∃ t, Ieee.double.read x = .nan (sg x) t := by
  unfold Ieee.Format.read
  have hlp : Ieee.double.leastPlace = -1074 := rfl
  have hbi : Ieee.double.binade = 4503599627370496 := rfl
  have hir : Ieee.double.infRung = 9218868437227405312 := rfl
  have hsw : Ieee.double.signWeight = 9223372036854775808 := rfl
  simp only [hlp, hbi, hir, hsw]
  have hr : x % 9223372036854775808 = rg x := rfl
  rw [hr, if_neg (by omega), if_neg (by omega), if_neg (by omega)]
  exact ⟨_, rfl⟩
theorem signed_eq (s : Bool) (m k : Nat) : Ieee.signed s m k = if s then -((m * 2 ^ k : Nat) : Int) else ((m * 2 ^ k : Nat) : Int) := by
  unfold Ieee.signed
  rw [Nat.shiftLeft_eq]
/-- A number at a deeper place: its value. -/
theorem signed_sv {x m p b : Nat} (h : m * 2 ^ p = mg (rg x)) (hb : b ≤ p) : Ieee.signed (sg x) m (p - b) * ((2 ^ b : Nat) : Int) = sv x := by
  rw [signed_eq]
  unfold sv
  have e : (m * 2 ^ (p - b)) * 2 ^ b = mg (rg x) := by
    rw [Nat.mul_assoc, ← Nat.pow_add, Nat.sub_add_cancel hb, h]
  rw [← e]
  split
  · rw [Int.neg_mul]; rw [← Int.natCast_mul]
  · rw [← Int.natCast_mul]
/-! ### Order -/
def ord3 (a b : Int) : Ordering := if a < b then .lt else if a = b then .eq else .gt
theorem compare_int (a b : Int) : compare a b = ord3 a b := by
  rfl
theorem sv_lt {x y : Nat} (hx : rg x ≤ 9218868437227405312) (hy : rg y ≤ 9218868437227405312) : sv x < sv y ↔ rk x < rk y := by
  unfold sv rk
  have h1 : ∀ {r s : Nat}, r ≤ 9218868437227405312 → s ≤ 9218868437227405312 → (mg r < mg s ↔ r < s) := fun {r s} hr hs =>
    ⟨fun h => Nat.lt_of_not_le fun hle => by have := mg_le hr hle; omega, fun h => mg_lt hs h⟩
  have a1 := h1 hx hy
  have a2 := h1 hy hx
  have b1 := h1 (Nat.zero_le _) hx
  have b2 := h1 (Nat.zero_le _) hy
  rw [mg_zero] at b1 b2
  cases sg x <;> cases sg y <;> simp <;> omega
theorem sv_eq {x y : Nat} (hx : rg x ≤ 9218868437227405312) (hy : rg y ≤ 9218868437227405312) : sv x = sv y ↔ rk x = rk y := by
  have h1 := sv_lt hx hy
  have h2 := sv_lt hy hx
  omega
theorem order_num {x y : Nat} (hx : rg x ≤ 9218868437227405312) (hy : rg y ≤ 9218868437227405312) : Ieee.double.order x y = some (ord3 (rk x) (rk y)) := by
  unfold Ieee.Format.order
  by_cases fx : rg x < 9218868437227405312
  · obtain ⟨m, p, ex, hm⟩ := read_num fx
    by_cases fy : rg y < 9218868437227405312
    · obtain ⟨n, q, ey, hn⟩ := read_num fy
      rw [ex, ey]
      unfold Ieee.Datum.order
      have e1 : ((-1074 + (p : Int)) - min (-1074 + (p : Int)) (-1074 + (q : Int))).toNat = p - min p q := by omega
      have e2 : ((-1074 + (q : Int)) - min (-1074 + (p : Int)) (-1074 + (q : Int))).toNat = q - min p q := by omega
      simp only [e1, e2]
      have s1 := signed_sv hm (Nat.min_le_left p q)
      have s2 := signed_sv hn (Nat.min_le_right p q)
      rw [compare_int]
      have hp : (0 : Int) < ((2 ^ min p q : Nat) : Int) := by exact_mod_cast Nat.two_pow_pos _
      generalize Ieee.signed (sg x) m (p - min p q) = A at *
      generalize Ieee.signed (sg y) n (q - min p q) = B at *
      have c1 : A < B ↔ rk x < rk y := by
        rw [← sv_lt hx hy, ← s1, ← s2]
        exact ⟨fun h => Int.mul_lt_mul_of_pos_right h hp, fun h => Int.lt_of_mul_lt_mul_right h (Int.le_of_lt hp)⟩
      have c2 : B < A ↔ rk y < rk x := by
        rw [← sv_lt hy hx, ← s1, ← s2]
        exact ⟨fun h => Int.mul_lt_mul_of_pos_right h hp, fun h => Int.lt_of_mul_lt_mul_right h (Int.le_of_lt hp)⟩
      congr 1
      unfold ord3
      by_cases h1 : rk x < rk y
      · rw [if_pos h1, if_pos (c1.2 h1)]
      · rw [if_neg h1, if_neg (fun h => h1 (c1.1 h))]
        by_cases h2 : rk x = rk y
        · rw [if_pos h2, if_pos (by omega)]
        · rw [if_neg h2, if_neg (by omega)]
    · rw [ex, read_inf (by omega : rg y = 9218868437227405312)]
      unfold Ieee.Datum.order ord3 rk
      cases sg x <;> cases sg y <;> simp <;> (repeat' split) <;> (first | rfl | omega)
  · by_cases fy : rg y < 9218868437227405312
    · obtain ⟨n, q, ey, hn⟩ := read_num fy
      rw [ey, read_inf (by omega : rg x = 9218868437227405312)]
      unfold Ieee.Datum.order ord3 rk
      cases sg x <;> cases sg y <;> simp <;> (repeat' split) <;> (first | rfl | omega)
    · rw [read_inf (by omega : rg x = 9218868437227405312), read_inf (by omega : rg y = 9218868437227405312)]
      have ex : rg x = 9218868437227405312 := by omega
      have ey : rg y = 9218868437227405312 := by omega
      unfold Ieee.Datum.order ord3 rk
      rw [ex, ey]
      cases sg x <;> cases sg y <;> rfl
theorem order_nan {x y : Nat} (h : 9218868437227405312 < rg x ∨ 9218868437227405312 < rg y) : Ieee.double.order x y = none := by
  unfold Ieee.Format.order
  by_cases hx : 9218868437227405312 < rg x
  · obtain ⟨t, e⟩ := read_nan hx
    rw [e]
    rfl
  · obtain ⟨t, e⟩ := read_nan (h.resolve_left hx)
    rw [e]
    by_cases fx : rg x < 9218868437227405312
    · obtain ⟨m, p, ex, hm⟩ := read_num fx
      rw [ex]
      rfl
    · rw [read_inf (by omega : rg x = 9218868437227405312)]
      rfl
/-! ### Sums -/
/-- The rung of a whole number of least ones, with its sign. -/
def sr (t : Int) : Int := if t < 0 then -(rq t.natAbs 1 : Int) else rq t.natAbs 1
theorem sr_mono {a b : Int} (h : a ≤ b) : sr a ≤ sr b := by
  unfold sr
  split <;> split
  · have := rq_mono_same (N1 := b.natAbs) (N2 := a.natAbs) (D := 1) (by omega)
    omega
  · omega
  · omega
  · have := rq_mono_same (N1 := a.natAbs) (N2 := b.natAbs) (D := 1) (by omega)
    omega
theorem sr_sv {x : Nat} (hx : rg x ≤ 9218868437227405312) : sr (sv x) = rk x := by
  have h := rq_mg1 hx
  have h0 := mg_zero
  unfold sr sv rk
  cases sg x
  · simp [h]
    intro h1; omega
  · simp only [if_true, Int.natAbs_neg, Int.natAbs_natCast, h]
    by_cases h1 : rg x = 0
    · rw [h1, h0]; simp
    · have := mg_pos hx (by omega)
      rw [if_pos (by omega)]
theorem add_fin {x y : Nat} (hx : rg x < 9218868437227405312) (hy : rg y < 9218868437227405312) :
    Ieee.double.add x y = some (wd (if sv x + sv y = 0 then sg x && sg y else decide (sv x + sv y < 0)) (rq (sv x + sv y).natAbs 1)) := by
  obtain ⟨m, p, ex, hm⟩ := read_num hx
  obtain ⟨n, q, ey, hn⟩ := read_num hy
  unfold Ieee.Format.add
  rw [ex, ey]
  unfold Ieee.Datum.sum
  have e1 : ((-1074 + (p : Int)) - min (-1074 + (p : Int)) (-1074 + (q : Int))).toNat = p - min p q := by omega
  have e2 : ((-1074 + (q : Int)) - min (-1074 + (p : Int)) (-1074 + (q : Int))).toNat = q - min p q := by omega
  simp only [e1, e2, Option.map_some, Ieee.Format.write]
  have s1 := signed_sv hm (Nat.min_le_left p q)
  have s2 := signed_sv hn (Nat.min_le_right p q)
  rw [nearest_eq _ _ _ (min p q) 0 (by omega), word_wd]
  have hp : (0 : Int) < ((2 ^ min p q : Nat) : Int) := by exact_mod_cast Nat.two_pow_pos _
  rw [← s1, ← s2, ← Int.add_mul]
  generalize Ieee.signed (sg x) m (p - min p q) = A at *
  generalize Ieee.signed (sg y) n (q - min p q) = B at *
  have c0 : (A + B = 0) ↔ ((A + B) * ((2 ^ min p q : Nat) : Int) = 0) := by
    rw [Int.mul_eq_zero]
    exact ⟨.inl, fun h => h.resolve_right (by omega)⟩
  have c1 : (A + B < 0) ↔ ((A + B) * ((2 ^ min p q : Nat) : Int) < 0) := by
    constructor
    · intro h
      have := Int.mul_lt_mul_of_pos_right h hp
      rwa [Int.zero_mul] at this
    · intro h
      apply Int.lt_of_mul_lt_mul_right (a := ((2 ^ min p q : Nat) : Int)) _ (Int.le_of_lt hp)
      rwa [Int.zero_mul]
  rw [Int.natAbs_mul, Int.natAbs_natCast]
  congr 2
  by_cases h0 : A + B = 0
  · rw [if_pos h0, if_pos (c0.1 h0)]
  · rw [if_neg h0, if_neg (fun h => h0 (c0.2 h))]
    simp only [c1]
theorem rk_add {x y : Nat} (hx : rg x < 9218868437227405312) (hy : rg y < 9218868437227405312) :
    ∃ r, Ieee.double.add x y = some r ∧ r < 18446744073709551616 ∧ rg r ≤ 9218868437227405312 ∧ rk r = sr (sv x + sv y) ∧ (sv x + sv y = 0 → sg r = (sg x && sg y)) ∧ (sv x + sv y ≠ 0 → sg r = decide (sv x + sv y < 0)) := by
  have hle := rq_le (sv x + sv y).natAbs 1
  refine ⟨_, add_fin hx hy, wd_lt (by omega), by rw [rg_wd (by omega)]; exact hle, ?_, fun h => ?_, fun h => ?_⟩
  · unfold rk
    rw [sg_wd (by omega), rg_wd (by omega)]
    unfold sr
    by_cases h0 : sv x + sv y = 0
    · rw [if_pos h0, h0]
      have : rq (0 : Int).natAbs 1 = 0 := rq_zero (by omega)
      rw [this]
      split <;> rfl
    · rw [if_neg h0]
      simp
  · rw [sg_wd (by omega), if_pos h]
  · rw [sg_wd (by omega), if_neg h]
theorem inf_lt : Ieee.double.infRung = 9218868437227405312 := rfl
theorem add_inf_fin {x y : Nat} (hx : rg x = 9218868437227405312) (hy : rg y < 9218868437227405312) : Ieee.double.add x y = some (wd (sg x) 9218868437227405312) := by
  obtain ⟨n, q, ey, hn⟩ := read_num hy
  unfold Ieee.Format.add
  rw [read_inf hx, ey]
  rfl
theorem add_fin_inf {x y : Nat} (hx : rg x < 9218868437227405312) (hy : rg y = 9218868437227405312) : Ieee.double.add x y = some (wd (sg y) 9218868437227405312) := by
  obtain ⟨n, q, ex, hn⟩ := read_num hx
  unfold Ieee.Format.add
  rw [read_inf hy, ex]
  rfl
theorem add_inf_inf {x y : Nat} (hx : rg x = 9218868437227405312) (hy : rg y = 9218868437227405312) : Ieee.double.add x y = if sg x = sg y then some (wd (sg x) 9218868437227405312) else none := by
  unfold Ieee.Format.add
  rw [read_inf hx, read_inf hy]
  unfold Ieee.Datum.sum
  dsimp only
  split <;> rfl
theorem add_nan {x y : Nat} (h : 9218868437227405312 < rg x ∨ 9218868437227405312 < rg y) : Ieee.double.add x y = none := by
  unfold Ieee.Format.add
  by_cases hx : 9218868437227405312 < rg x
  · obtain ⟨t, e⟩ := read_nan hx
    rw [e]
    rfl
  · obtain ⟨t, e⟩ := read_nan (h.resolve_left hx)
    rw [e]
    by_cases fx : rg x < 9218868437227405312
    · obtain ⟨m, p, ex, hm⟩ := read_num fx
      rw [ex]
      rfl
    · rw [read_inf (by omega : rg x = 9218868437227405312)]
      rfl
theorem add_comm (x y : Nat) : Ieee.double.add x y = Ieee.double.add y x := by
  by_cases hn : 9218868437227405312 < rg x ∨ 9218868437227405312 < rg y
  · rw [add_nan hn, add_nan (hn.elim .inr .inl)]
  by_cases fx : rg x < 9218868437227405312
  · by_cases fy : rg y < 9218868437227405312
    · rw [add_fin fx fy, add_fin fy fx, Int.add_comm (sv y), Bool.and_comm (sg y)]
    · rw [add_fin_inf fx (by omega), add_inf_fin (by omega) fx]
  · by_cases fy : rg y < 9218868437227405312
    · rw [add_inf_fin (by omega) fy, add_fin_inf fy (by omega)]
    · rw [add_inf_inf (by omega) (by omega), add_inf_inf (by omega) (by omega)]
      by_cases h : sg x = sg y
      · rw [if_pos h, if_pos h.symm, h]
      · rw [if_neg h, if_neg (fun e => h e.symm)]
/-- The other sign. -/
def opp (x : Nat) : Nat := wd (!sg x) (rg x)
theorem rg_lt (x : Nat) : rg x < 9223372036854775808 := Nat.mod_lt _ (by omega)
theorem sg_opp (x : Nat) : sg (opp x) = !sg x := sg_wd (rg_lt x)
theorem rg_opp (x : Nat) : rg (opp x) = rg x := rg_wd (rg_lt x)
theorem sv_opp (x : Nat) : sv (opp x) = -sv x := by
  unfold sv
  rw [sg_opp, rg_opp]
  cases sg x <;> simp
theorem rk_opp (x : Nat) : rk (opp x) = -rk x := by
  unfold rk
  rw [sg_opp, rg_opp]
  cases sg x <;> simp
theorem sub_add (x y : Nat) : Ieee.double.sub x y = Ieee.double.add x (opp y) := by
  unfold Ieee.Format.sub Ieee.Format.add
  by_cases hn : 9218868437227405312 < rg y
  · obtain ⟨t, e⟩ := read_nan hn
    obtain ⟨t', e'⟩ := read_nan (x := opp y) (by rw [rg_opp]; exact hn)
    rw [e, e']
    cases Ieee.double.read x <;> rfl
  by_cases fy : rg y < 9218868437227405312
  · have e : Ieee.double.read (opp y) = (Ieee.double.read y).opposite := by
      unfold Ieee.Format.read
      have hsw : Ieee.double.signWeight = 9223372036854775808 := rfl
      have h1 : opp y % 9223372036854775808 = y % 9223372036854775808 := rg_opp y
      have h2 : (opp y / 9223372036854775808 % 2 == 1) = !(y / 9223372036854775808 % 2 == 1) := sg_opp y
      simp only [hsw, h1, h2]
      split
      · rfl
      · split
        · rfl
        · split <;> rfl
    rw [e]
  · have ey : rg y = 9218868437227405312 := by omega
    rw [read_inf ey, read_inf (x := opp y) (by rw [rg_opp]; exact ey), sg_opp]
    rfl
end Go.Proofs.YtkckncggiicciaaDoor
