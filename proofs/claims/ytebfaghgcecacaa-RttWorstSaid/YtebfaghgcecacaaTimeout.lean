/-
  The walks of rtt.Timeout and the page's; skerrylaw12.wakes; the walk of RttExact.
-/
import Derived.Test.YtebfaghgcecacaaRefnote
import Derived.Test.YtebfaghgcecacaaPex
namespace Go.Proofs.Ytebfaghgcecacaa
open Go.RowKit
theorem right_not {m v : Nat} (hc : chk m v = true) (nm : isNan m = false) : rightB m = true ∧ rightB v = true := by
  unfold chk at hc
  rw [nm] at hc
  simpa using hc
/-- Four times how it varies. -/
def fourV (v : Nat) : Nat := if v = 9218868437227405312 then 9218868437227405312 else rq (mg 4616189618054758400 * mg v) U1
theorem four_le (v : Nat) : fourV v ≤ 9218868437227405312 := by
  unfold fourV
  split
  · omega
  · exact rq_le _ _
theorem four_eq {v : Nat} (hv : v ≤ 9218868437227405312) : Ieee.double.mul 4616189618054758400 v = some (fourV v) := by
  obtain ⟨rv, sv'⟩ := rg_small hv
  unfold fourV
  by_cases h : v = 9218868437227405312
  · rw [if_pos h, h]
    decide +kernel
  · rw [if_neg h, mul_fin (by decide) (by omega), rv, sv', show sg 4616189618054758400 = false by decide, show rg 4616189618054758400 = 4616189618054758400 by decide, Bool.xor_self, wd_false]
def waitF (m v : Nat) : Nat := (Ieee.double.add m (fourV v)).getD 0
theorem wait_eq {m : Nat} (v : Nat) (hm : m ≤ 9218868437227405312) : Ieee.double.add m (fourV v) = some (waitF m v) ∧ waitF m v ≤ 9218868437227405312 := by
  obtain ⟨r, h1, h2, _, _⟩ := add_right hm (four_le v)
  have e : waitF m v = r := by unfold waitF; rw [h1]; rfl
  rw [e]
  exact ⟨h1, h2⟩
def toutB (m v : Nat) (lo hi : Int) : Bool := chk m v && decide (1 ≤ lo ∧ lo ≤ hi ∧ hi ≤ 1000)
def toutV (m v : Nat) (lo hi : Int) : Int := if isNan m = true then hi else ticksV (waitF m v) lo hi
def ToutPost (m v : Nat) (lo hi : Int) (w : World) (e : Ending) (w' : World) : Prop :=
  e = .returned (if toutB m v lo hi = true then .tuple #[.int .i64 (toutV m v lo hi), .int .i64 0] else .tuple #[.int .i64 0, .int .i64 1]) ∧ Below w.heap.size w w'
set_option maxHeartbeats 3200000 in
theorem Timeout_any (m v : Nat) (lo hi : Int) (w : World) (hm : m < 18446744073709551616) (hv : v < 18446744073709551616) :
    Calls Try.prog 31 #[.agg #[.float .f64 m, .float .f64 v], .int .i64 lo, .int .i64 hi] w (ToutPost m v lo hi w) := by
  have HP : Hid (∀ w', Below w.heap.size w w' → ToutPost m v lo hi w (.returned (if toutB m v lo hi = true then .tuple #[.int .i64 (toutV m v lo hi), .int .i64 0] else .tuple #[.int .i64 0, .int .i64 1])) w') := fun w' hb => ⟨rfl, hb⟩
  have Hck : Hid (∀ W, Calls Try.prog 28 #[.agg #[.float .f64 m, .float .f64 v]] W fun e w' => e = .returned (.int .i64 (if chk m v = true then 0 else 1)) ∧ Below W.heap.size W w') := fun W => Check_any m v W hm hv
  unfold toutB at HP
  cases hc : chk m v
  · rw [hc] at Hck HP
    simp only [Bool.false_eq_true, if_false, Bool.false_and] at Hck HP
    clear hc
    go_enter Try.func31, Try.ntmps31
    go_wp2_with fail
    refine (Hck.out _).mono ?_
    rintro e w1 ⟨rfl, hb1⟩
    go_wp2_with fail
    go_ret2
    exact HP.out _ (((Below.refl _ _).alloc (Nat.le_refl _) _).trans (hb1.mono (by simp)))
  rw [hc] at Hck HP
  simp only [if_true, Bool.true_and] at Hck HP
  by_cases hb : 1 ≤ lo ∧ lo ≤ hi ∧ hi ≤ 1000
  case neg =>
    rw [if_neg (by simpa using hb)] at HP
    have h3 : lo < 1 ∨ hi < lo ∨ 1000 < hi := by omega
    clear hb hc
    rcases Decidable.em (lo < 1) with h1 | h1
    case' inr =>
      rcases Decidable.em (hi < lo) with h2 | h2
    case' inr.inr =>
      have h4 : 1000 < hi := by omega
    all_goals
      clear h3
      go_enter Try.func31, Try.ntmps31
      go_wp2_with fail
      refine (Hck.out _).mono ?_
      rintro e w1 ⟨rfl, hb1⟩
      go_wp2_with fail
      go_ret2
      exact HP.out _ (((Below.refl _ _).alloc (Nat.le_refl _) _).trans (hb1.mono (by simp)))
  rw [if_pos (by simpa using hb)] at HP
  obtain ⟨h1, h2, h3⟩ := hb
  have h1' : ¬ lo < 1 := by omega
  have h2' : ¬ hi < lo := by omega
  have h3' : ¬ 1000 < hi := by omega
  have hkn : ∀ w, Calls Try.prog 52 #[.agg #[.float .f64 m, .float .f64 v]] w fun e w' => e = .returned (.bool (!isNan m)) ∧ Below w.heap.size w w' := fun w => known_any m v w
  unfold toutV at HP
  cases nm : isNan m
  case true =>
    rw [nm] at hkn HP
    simp only [if_true] at HP
    have Hkn := Lib.hid hkn
    clear hkn hc h1 h2 h3
    go_enter Try.func31, Try.ntmps31
    go_wp2_with fail
    refine (Hck.out _).mono ?_
    rintro e w1 ⟨rfl, hb1⟩
    obtain ⟨hcc, hff⟩ := bcell hb1
    go_wp2_with fail
    refine (Hkn.out _).mono ?_
    rintro e w2 ⟨rfl, hb2⟩
    go_wp2_with fail
    go_ret2
    exact HP.out _ ((((Below.refl _ _).alloc (Nat.le_refl _) _).trans (hb1.mono (by simp))).trans (hb2.mono (by have := hb1.size; simp at this; omega)))
  case false =>
    obtain ⟨r1, r2⟩ := right_not hc nm
    have l1 := right_le r1 hm
    have l2 := right_le r2 hv
    have k1 := four_eq l2
    obtain ⟨k2, k3⟩ := wait_eq v l1
    have q1 := fun w => run_float_arith (P := Try.prog) w .mul 22 .f64 4616189618054758400 v _ k1
    have q2 := fun w => run_float_arith (P := Try.prog) w .add 22 .f64 m _ _ k2
    have HT : Hid (∀ w, Calls Try.prog 56 #[.float .f64 (waitF m v), .int .i64 lo, .int .i64 hi] w fun e w' => e = .returned (.int .i64 (ticksV (waitF m v) lo hi)) ∧ w = w') := fun w => Ticks_num _ lo hi w (right_sg (right_small k3)).1 (by omega)
    rw [nm] at hkn HP
    simp only [Bool.false_eq_true, if_false] at HP
    have Hkn := Lib.hid hkn
    obtain ⟨F, hF⟩ : ∃ F, waitF m v = F := ⟨_, rfl⟩
    rw [hF] at q2 HT HP
    obtain ⟨G, hG⟩ : ∃ G, fourV v = G := ⟨_, rfl⟩
    rw [hG] at q1 q2
    clear hF hG hkn hc h1 h2 h3 k1 k2 k3 l1 l2 r1 r2
    go_enter Try.func31, Try.ntmps31
    go_wp2_with fail
    refine (Hck.out _).mono ?_
    rintro e w1 ⟨rfl, hb1⟩
    obtain ⟨hcc, hff⟩ := bcell hb1
    have hz1 : w.heap.size < w1.heap.size := by have := hb1.size; simp at this; omega
    go_wp2_with fail
    refine (Hkn.out _).mono ?_
    rintro e w2 ⟨rfl, hb2⟩
    obtain ⟨hcc2, hff2⟩ := bcell hb2
    go_wp2_with (refine (HT.out _).mono ?_; rintro e w3 ⟨rfl, rfl⟩)
    go_ret2
    exact HP.out _ ((((Below.refl _ _).alloc (Nat.le_refl _) _).trans (hb1.mono (by simp))).trans (hb2.mono (by omega)))
set_option maxHeartbeats 3200000 in
theorem RefTimeout_any (m v : Nat) (lo hi : Int) (w : World) (hm : m < 18446744073709551616) (hv : v < 18446744073709551616) :
    Calls Try.prog 32 #[.agg #[.float .f64 m, .float .f64 v], .int .i64 lo, .int .i64 hi] w (ToutPost m v lo hi w) := by
  have HP : Hid (∀ w', Below w.heap.size w w' → ToutPost m v lo hi w (.returned (if toutB m v lo hi = true then .tuple #[.int .i64 (toutV m v lo hi), .int .i64 0] else .tuple #[.int .i64 0, .int .i64 1])) w') := fun w' hb => ⟨rfl, hb⟩
  have Hck : Hid (∀ W, Calls Try.prog 21 #[.agg #[.float .f64 m, .float .f64 v]] W fun e w' => e = .returned (.bool (chk m v)) ∧ Below W.heap.size W w') := fun W => RefRtt_any m v W hm hv
  unfold toutB at HP
  cases hc : chk m v
  · rw [hc] at Hck HP
    simp only [Bool.false_eq_true, if_false, Bool.false_and] at HP
    clear hc
    go_enter Try.func32, Try.ntmps32
    go_wp2_with fail
    refine (Hck.out _).mono ?_
    rintro e w1 ⟨rfl, hb1⟩
    go_wp2_with fail
    go_ret2
    exact HP.out _ (((Below.refl _ _).alloc (Nat.le_refl _) _).trans (hb1.mono (by simp)))
  rw [hc] at Hck HP
  simp only [Bool.true_and] at HP
  by_cases hb : 1 ≤ lo ∧ lo ≤ hi ∧ hi ≤ 1000
  case neg =>
    rw [if_neg (by simpa using hb)] at HP
    have h3 : lo < 1 ∨ hi < lo ∨ 1000 < hi := by omega
    clear hb hc
    rcases Decidable.em (lo < 1) with h1 | h1
    case' inr =>
      rcases Decidable.em (hi < lo) with h2 | h2
    case' inr.inr =>
      have h4 : 1000 < hi := by omega
    all_goals
      clear h3
      go_enter Try.func32, Try.ntmps32
      go_wp2_with fail
      refine (Hck.out _).mono ?_
      rintro e w1 ⟨rfl, hb1⟩
      go_wp2_with fail
      go_ret2
      exact HP.out _ (((Below.refl _ _).alloc (Nat.le_refl _) _).trans (hb1.mono (by simp)))
  rw [if_pos (by simpa using hb)] at HP
  obtain ⟨h1, h2, h3⟩ := hb
  have h1' : ¬ lo < 1 := by omega
  have h2' : ¬ hi < lo := by omega
  have h3' : ¬ 1000 < hi := by omega
  have hkn : ∀ w, Calls Try.prog 45 #[.agg #[.float .f64 m, .float .f64 v]] w fun e w' => e = .returned (.bool (!isNan m)) ∧ Below w.heap.size w w' := fun w => Refknown_any m v w
  unfold toutV at HP
  cases nm : isNan m
  case true =>
    rw [nm] at hkn HP
    simp only [if_true] at HP
    have Hkn := Lib.hid hkn
    clear hkn hc h1 h2 h3
    go_enter Try.func32, Try.ntmps32
    go_wp2_with fail
    refine (Hck.out _).mono ?_
    rintro e w1 ⟨rfl, hb1⟩
    obtain ⟨hcc, hff⟩ := bcell hb1
    go_wp2_with fail
    refine (Hkn.out _).mono ?_
    rintro e w2 ⟨rfl, hb2⟩
    go_wp2_with fail
    go_ret2
    exact HP.out _ ((((Below.refl _ _).alloc (Nat.le_refl _) _).trans (hb1.mono (by simp))).trans (hb2.mono (by have := hb1.size; simp at this; omega)))
  case false =>
    obtain ⟨r1, r2⟩ := right_not hc nm
    have l1 := right_le r1 hm
    have l2 := right_le r2 hv
    have k1 := four_eq l2
    obtain ⟨k2, k3⟩ := wait_eq v l1
    rw [add_comm] at k2
    have q1 := fun w => run_float_arith (P := Try.prog) w .mul 22 .f64 4616189618054758400 v _ k1
    have q2 := fun w => run_float_arith (P := Try.prog) w .add 22 .f64 _ m _ k2
    have HT : Hid (∀ w, Calls Try.prog 57 #[.float .f64 (waitF m v), .int .i64 lo, .int .i64 hi] w fun e w' => e = .returned (.int .i64 (ticksV (waitF m v) lo hi)) ∧ w = w') := fun w => RefTicks_num _ lo hi w (right_sg (right_small k3)).1 (by omega)
    rw [nm] at hkn HP
    simp only [Bool.false_eq_true, if_false] at HP
    have Hkn := Lib.hid hkn
    obtain ⟨F, hF⟩ : ∃ F, waitF m v = F := ⟨_, rfl⟩
    rw [hF] at q2 HT HP
    obtain ⟨G, hG⟩ : ∃ G, fourV v = G := ⟨_, rfl⟩
    rw [hG] at q1 q2
    clear hF hG hkn hc h1 h2 h3 k1 k2 k3 l1 l2 r1 r2
    go_enter Try.func32, Try.ntmps32
    go_wp2_with fail
    refine (Hck.out _).mono ?_
    rintro e w1 ⟨rfl, hb1⟩
    obtain ⟨hcc, hff⟩ := bcell hb1
    have hz1 : w.heap.size < w1.heap.size := by have := hb1.size; simp at this; omega
    go_wp2_with fail
    refine (Hkn.out _).mono ?_
    rintro e w2 ⟨rfl, hb2⟩
    obtain ⟨hcc2, hff2⟩ := bcell hb2
    go_wp2_with (refine (HT.out _).mono ?_; rintro e w3 ⟨rfl, rfl⟩)
    go_ret2
    exact HP.out _ ((((Below.refl _ _).alloc (Nat.le_refl _) _).trans (hb1.mono (by simp))).trans (hb2.mono (by omega)))
theorem eight : noteV 9221120237041090561 9221120237041090561 4620693217682128896 = (4620693217682128896, 4616189618054758400) := by decide +kernel
theorem eightB : noteB 9221120237041090561 9221120237041090561 4620693217682128896 = true := by decide +kernel
theorem eightT : toutB 4620693217682128896 4616189618054758400 1 100 = true ∧ toutV 4620693217682128896 4616189618054758400 1 100 = 24 := by decide +kernel
set_option maxHeartbeats 800000 in
theorem rwakes_any (w : World) : Calls Try.prog 33 #[] w fun e w' => e = .returned (.bool true) ∧ Below w.heap.size w w' := by
  have HN : Hid (∀ w, Calls Try.prog 29 #[.agg #[.float .f64 9221120237041090561, .float .f64 9221120237041090561], .float .f64 4620693217682128896] w fun e w' => e = .returned (.tuple #[.agg #[.float .f64 4620693217682128896, .float .f64 4616189618054758400], .int .i64 0]) ∧ Below w.heap.size w w') := fun w =>
    (Note_any _ _ _ w (by omega) (by omega) (by omega)).mono fun e w' ⟨h1, h2⟩ => by
      rw [if_pos eightB, eight] at h1
      exact ⟨h1, h2⟩
  have HT : Hid (∀ w, Calls Try.prog 31 #[.agg #[.float .f64 4620693217682128896, .float .f64 4616189618054758400], .int .i64 1, .int .i64 100] w fun e w' => e = .returned (.tuple #[.int .i64 24, .int .i64 0]) ∧ Below w.heap.size w w') := fun w =>
    (Timeout_any _ _ 1 100 w (by omega) (by omega)).mono fun e w' ⟨h1, h2⟩ => by
      rw [if_pos eightT.1, eightT.2] at h1
      exact ⟨h1, h2⟩
  have g1 : (FloatKind.f64.format.order 4620693217682128896 4620693217682128896 == some Ordering.eq) = true := by rw [cmp_eq]; decide
  have g2 : (FloatKind.f64.format.order 4616189618054758400 4616189618054758400 == some Ordering.eq) = true := by rw [cmp_eq]; decide
  have hst := run_store_float
  go_enter Try.func33, Try.ntmps33
  go_wp2_with fail
  refine (New_any _).mono ?_
  rintro e w1 ⟨rfl, hb1⟩
  go_wp2_with fail
  refine (HN.out _).mono ?_
  rintro e w2 ⟨rfl, hb2⟩
  go_wp2_with fail
  refine (HT.out _).mono ?_
  rintro e w3 ⟨rfl, hb3⟩
  obtain ⟨hcc, hff⟩ := bcell hb3
  have hz2 : w2.heap.size < w3.heap.size := by have := hb3.size; simp at this; omega
  go_wp2_with fail
  go_ret
  exact ⟨rfl, hb1.trans ((hb2.mono hb1.size).trans (((Below.refl _ _).alloc (Nat.le_refl _) _).mono (Nat.le_trans hb1.size hb2.size)) |>.trans (hb3.mono (by have := hb1.size; have := hb2.size; simp; omega)))⟩
end Go.Proofs.Ytebfaghgcecacaa
