/-
  The walk of RttSteady.
-/
import Derived.Test.YtebfaghgcecacaaTimeout
namespace Go.Proofs.Ytebfaghgcecacaa
open Go.RowKit
theorem smooth_le (was is c : Nat) : smoothV was is c ≤ 9218868437227405312 := by
  unfold smoothV
  cases h : stepO was is c with
  | none => simp
  | some x =>
    simp only
    split
    · rename_i hr
      have : ∃ t, Ieee.double.add was t = some x := by
        unfold stepO at h
        cases h1 : Ieee.double.sub is was with
        | none => rw [h1] at h; cases h
        | some s =>
          rw [h1, Option.bind_some] at h
          cases h2 : Ieee.double.div s c with
          | none => rw [h2] at h; cases h
          | some t => rw [h2, Option.bind_some] at h; exact ⟨t, h⟩
      obtain ⟨t, ht⟩ := this
      exact right_le hr (add_ok ht).2
    · omega
theorem rk_small {x : Nat} (h : x ≤ 9218868437227405312) : rk x = x := by
  obtain ⟨r, s⟩ := rg_small h
  unfold rk
  rw [s, r]
  rfl
theorem sv_small {x : Nat} (h : x ≤ 9218868437227405312) : sv x = mg x := by
  obtain ⟨r, s⟩ := rg_small h
  unfold sv
  rw [s, r]
  rfl
theorem rk_of_right {x : Nat} (lx : x < 18446744073709551616) (h : rightB x = true) : rk x = x := rk_small (right_le h lx)
theorem smooth_of {was is c s t x : Nat} (h1 : Ieee.double.sub is was = some s) (h2 : Ieee.double.div s c = some t) (h3 : Ieee.double.add was t = some x) : smoothV was is c = if rightB x = true then x else 0 := by
  have : stepO was is c = some x := by unfold stepO; rw [h1, Option.bind_some, h2, Option.bind_some, h3]
  unfold smoothV
  rw [this]
/-- The same time again stays the mean. -/
theorem smooth_self {X c : Nat} (hX : X ≤ 9218868437227405312) (hc : c < 9218868437227405312) (h0 : 0 < c) : smoothV X X c = X := by
  obtain ⟨rc, sc⟩ := rg_small (Nat.le_of_lt hc)
  rcases sub_right hX hX with ⟨h1, _, h3⟩ | ⟨r, h1, nr, lr, h4, h5⟩
  · rw [smooth_none h3, h1]
  · by_cases hi : X = 9218868437227405312
    · exfalso
      subst hi
      have : Ieee.double.sub 9218868437227405312 9218868437227405312 = none := by
        rw [sub_add, add_inf_inf (by decide) (by decide)]
        decide
      rw [this] at h1
      cases h1
    · rw [if_neg hi, if_neg hi, Int.sub_self] at h4
      have hs0 : sr 0 = 0 := by unfold sr; rw [if_neg (by omega)]; rw [Int.natAbs_zero, rq_zero (by omega)]; rfl
      rw [hs0] at h4
      have hr0 := h5 h4
      subst hr0
      have hd : Ieee.double.div 0 c = some 0 := by
        have h0' : rq (mg (rg 0) * U1) (mg (rg c)) = 0 := by
          rw [show rg 0 = 0 from rfl, mg_zero, Nat.zero_mul]
          exact rq_zero (mg_pos (by omega) (by omega))
        rw [div_fin (by decide) (by omega) (by omega), h0', sc]
        rfl
      obtain ⟨rX, sX⟩ := rg_small hX
      obtain ⟨y, h6, h7, h8, h9, h10, h11⟩ := rk_add (x := X) (y := 0) (by omega) (by decide)
      have e0 : sv X + sv 0 = (mg X : Int) := by rw [sv_small hX, sv_small (by omega), mg_zero]; simp
      have hy : y = X := by
        have hk : rk y = X := by
          rw [h9, e0, ← sv_small hX, sr_sv (by omega), rk_small hX]
        have hs : sg y = false := by
          by_cases hz : sv X + sv 0 = 0
          · rw [h10 hz, sX]; rfl
          · rw [h11 hz, e0, decide_eq_false (by omega)]
        have hg : rg y = X := by
          unfold rk at hk
          rw [hs] at hk
          simp at hk
          omega
        exact eq_of_sg_rg h7 (by omega) (hs.trans sX.symm) (hg.trans rX.symm)
      subst hy
      rw [smooth_of h1 hd h6, if_pos (right_small hX)]
theorem apart_self {X : Nat} (hX : X ≤ 9218868437227405312) : apartV X X = 0 := by
  rcases sub_both hX hX with ⟨_, _, h⟩ | ⟨p, q, h1, h2, _, _, _, _, h3, h4⟩
  · exact h
  · rw [h1] at h2
    injection h2 with h2
    subst h2
    obtain ⟨rfl, _⟩ := h4 rfl
    rw [h3]
    decide
/-- How it varies never grows. -/
theorem smooth_down {v c : Nat} (hv : v ≤ 9218868437227405312) (hc : c < 9218868437227405312) (h1c : 4607182418800017408 ≤ c) : smoothV v 0 c ≤ v := by
  by_cases hi : v = 9218868437227405312
  · rw [hi]
    exact smooth_le _ _ _
  rcases sub_right (x := 0) (y := v) (by omega) hv with ⟨h1, _, _⟩ | ⟨r, h1, nr, lr, h4, _⟩
  · cases h1
  · rw [if_neg (by omega), if_neg hi, mg_zero] at h4
    have h4' : rk r = -(v : Int) := by
      rw [h4]
      unfold sr
      by_cases hz : v = 0
      · subst hz
        rw [mg_zero]
        rw [if_neg (by omega)]
        have : ((0 : Nat) : Int) - ((0 : Nat) : Int) = 0 := by omega
        rw [this, Int.natAbs_zero, rq_zero (by omega)]
        rfl
      · have := mg_pos hv (by omega)
        rw [if_pos (by omega)]
        have e : (((0 : Nat) : Int) - (mg v : Int)).natAbs = mg v := by omega
        rw [e, rq_mg1 hv]
    have hfr : rg r < 9218868437227405312 := by unfold rk at h4'; split at h4' <;> omega
    obtain ⟨t, h5, h6, h7, h8⟩ := div_rk (x := r) (y := c) hfr hc (by omega)
    have hq := (qd_le (a := rk r) (y := c) (by rw [h4']; omega) h1c (by omega)).2 (by rw [h4']; omega)
    rw [← h8] at hq
    have hft : rg t < 9218868437227405312 := by unfold rk at hq h4'; split at hq <;> split at h4' <;> omega
    obtain ⟨rv, sv'⟩ := rg_small hv
    obtain ⟨y, h9, h10, h11, h12, _, _⟩ := rk_add (x := v) (y := t) (by omega) hft
    have hst : sv t ≤ 0 := by
      have := (sv_lt (x := 0) (y := t) (by decide) (by omega)).1
      rw [rk_zero] at this
      have h0 : sv 0 = 0 := rfl
      rw [h0] at this
      omega
    have hle : rk y ≤ v := by
      rw [h12]
      have := sr_mono (show sv v + sv t ≤ sv v by omega)
      rw [sr_sv (by omega), rk_small hv] at this
      exact this
    rw [smooth_of h1 h5 h9]
    split
    · rename_i hr
      have := rk_of_right h10 hr
      omega
    · omega
theorem steady_chk {X v : Nat} (hX : X ≤ 9218868437227405312) (hv : v ≤ 9218868437227405312) : chk X v = true := by
  unfold chk
  rw [right_small hX, right_small hv]
  simp
theorem half_le {X : Nat} : (if X = 9218868437227405312 then 9218868437227405312 else halfV X) ≤ 9218868437227405312 := by
  split
  · omega
  · exact dv_le _ _
set_option maxRecDepth 100000 in
set_option maxHeartbeats 6400000 in
theorem steady_walk (x : Nat) (n : Int) (W : World) (hx : x < 18446744073709551616) :
    Calls Try.prog 9 #[.float .f64 x, .int .i64 n] W fun e w' => e = .returned (.bool true) ∧ Below W.heap.size W w' := by
  have hge := cmp_ge x 0
  rw [show isNan 0 = false from rfl, Bool.not_false, Bool.and_true] at hge
  cases hB : (!isNan x && decide (0 ≤ rk x))
  · rw [rk_zero, hB] at hge
    go_enter Try.func9, Try.ntmps9
    go_wp2_with fail
    go_ret
    exact ⟨rfl, Below.refl _ _⟩
  rw [rk_zero, hB] at hge
  by_cases h1 : n < 1
  · go_enter Try.func9, Try.ntmps9
    go_wp2_with fail
    go_ret
    exact ⟨rfl, Below.refl _ _⟩
  by_cases h3 : 300 < n
  · go_enter Try.func9, Try.ntmps9
    go_wp2_with fail
    go_ret
    exact ⟨rfl, Below.refl _ _⟩
  obtain ⟨nx, hk⟩ : isNan x = false ∧ 0 ≤ rk x := by simpa using hB
  have hr := isNan_false nx
  have hkx : rk x = rg x := by unfold rk at hk ⊢; cases hs : sg x <;> rw [hs] at hk <;> simp at hk ⊢ <;> omega
  have hN0 : Hid (∀ w, Calls Try.prog 29 #[.agg #[.float .f64 9221120237041090561, .float .f64 9221120237041090561], .float .f64 x] w fun e w' => e = .returned (.tuple #[.agg #[.float .f64 (rg x), .float .f64 (if rg x = 9218868437227405312 then 9218868437227405312 else halfV (rg x))], .int .i64 0]) ∧ Below w.heap.size w w') := fun w =>
    (Note_any _ _ x w (by omega) (by omega) hx).mono fun e w' ⟨a, b⟩ => by
      have e1 : noteB 9221120237041090561 9221120237041090561 x = true := by unfold noteB; rw [hB]; decide
      have e2 : noteV 9221120237041090561 9221120237041090561 x = (rg x, if rg x = 9218868437227405312 then 9218868437227405312 else halfV (rg x)) := by unfold noteV; rw [if_pos nan_nan]
      rw [if_pos e1, e2] at a
      exact ⟨a, b⟩
  have hN1 : Hid (∀ v, v ≤ 9218868437227405312 → ∃ v', v' ≤ v ∧ ∀ w, Calls Try.prog 29 #[.agg #[.float .f64 (rg x), .float .f64 v], .float .f64 x] w fun e w' => e = .returned (.tuple #[.agg #[.float .f64 (rg x), .float .f64 v'], .int .i64 0]) ∧ Below w.heap.size w w') := fun v hv =>
    ⟨smoothV v 0 4616189618054758400, smooth_down hv (by omega) (by omega), fun w =>
      (Note_any _ _ x w (by omega) (by omega) hx).mono fun e w' ⟨a, b⟩ => by
        have e1 : noteB (rg x) v x = true := by unfold noteB; rw [hB, steady_chk hr hv]; rfl
        have e2 : noteV (rg x) v x = (rg x, smoothV v 0 4616189618054758400) := by
          unfold noteV
          rw [if_neg (by rw [(right_sg (right_small hr)).1]; decide), smooth_self hr (by omega) (by omega), apart_self hr]
        rw [if_pos e1, e2] at a
        exact ⟨a, b⟩⟩
  have heq := cmp_eq (rg x) x
  rw [nx, (right_sg (right_small hr)).1, rk_small hr, hkx] at heq
  simp only [Bool.not_false, Bool.true_and, decide_true] at heq
  obtain ⟨X, hX⟩ : ∃ X, rg x = X := ⟨_, rfl⟩
  rw [hX] at hN0 hN1 heq hr
  obtain ⟨Y, hY⟩ : ∃ Y, (if X = 9218868437227405312 then 9218868437227405312 else halfV X) = Y := ⟨_, rfl⟩
  have hYle : Y ≤ 9218868437227405312 := by rw [← hY]; exact half_le
  rw [hY] at hN0
  obtain ⟨m, rfl⟩ := Int.eq_ofNat_of_zero_le (show 0 ≤ n by omega)
  have hst := run_store_float
  clear hX hY hkx hk nx hB
  go_enter Try.func9, Try.ntmps9
  go_wp2_with fail
  refine (New_any _).mono ?_
  rintro e w1 ⟨rfl, hb1⟩
  go_wp2_with fail
  refine (hN0.out _).mono ?_
  rintro e w2 ⟨rfl, hb2⟩
  have hbw2 : Below W.heap.size W w2 := hb1.trans (hb2.mono hb1.size)
  have hz2 : W.heap.size ≤ w2.heap.size := hbw2.size
  go_wp2_with fail
  go_loopg [7, 8, 9] m (fun g s7 _ _ wr => ∃ (i v : Nat), i + g = m ∧ s7 = .int .i64 i ∧ v ≤ 9218868437227405312 ∧ Below W.heap.size W wr ∧ w2.heap.size < wr.heap.size ∧ wr.heap[w2.heap.size]? = some (.cells #[.float .f64 X, .float .f64 v] 24 (0, 0)))
  case atStart => exact ⟨0, Y, by omega, rfl, hYle, hbw2.alloc hz2 _, by simp, heap_alloc_new w2 _⟩
  case round =>
    obtain ⟨i, v, hig, rfl, hv, hbr, hzr, hrow⟩ := hrel
    have hin : i ≤ m := by omega
    have Hig := Lib.hid hig
    have y0 : wr.cell? ⟨w2.heap.size, 0, none⟩ = some (.float .f64 X) := cell_of_row _ _ _ _ _ _ hrow
    have y1 : wr.cell? ⟨w2.heap.size, 1, none⟩ = some (.float .f64 v) := cell_of_row _ _ _ _ _ _ hrow
    have Hrow := Lib.hid hrow
    clear hig hrow
    by_cases hlt : i < m
    · obtain ⟨v', hv', hN⟩ := hN1.out v hv
      have HN := Lib.hid hN
      clear hN
      have hgt := small_gt (a := v') (b := v) (by omega) hv
      rw [decide_eq_false (by omega)] at hgt
      go_wp2_with fail
      refine (HN.out _).mono ?_
      rintro e w3 ⟨rfl, hb3⟩
      have hr3 : w3.heap[w2.heap.size]? = some (.cells #[.float .f64 X, .float .f64 v] 24 (0, 0)) := (hb3.block _ hzr).trans Hrow.out
      have z0 : w3.cell? ⟨w2.heap.size, 0, none⟩ = some (.float .f64 X) := cell_of_row _ _ _ _ _ _ hr3
      have z1 : w3.cell? ⟨w2.heap.size, 1, none⟩ = some (.float .f64 v) := cell_of_row _ _ _ _ _ _ hr3
      have f0 : w3.frozen? ⟨w2.heap.size, 0, none⟩ = false := frozen_of_row _ _ _ _ _ hr3
      have f1 : w3.frozen? ⟨w2.heap.size, 1, none⟩ = false := frozen_of_row _ _ _ _ _ hr3
      have hz3 : w2.heap.size < w3.heap.size := by have := hb3.size; omega
      have hbw3 : Below W.heap.size W w3 := hbr.trans (hb3.mono hbr.size)
      have Hr3 := Lib.hid hr3
      clear y0 y1 hr3 hb3
      go_wp2_with fail
      go_roundg (gk - 1)
      case rel =>
        refine ⟨i + 1, v', by have := Hig.out; omega, by go_num, by omega, ?_, ?_, ?_⟩
        · exact ((hbw3.setCell hz2 _).setCell hz2 _).alloc (by simp [World.setCell]; omega) _
        · simp [World.setCell]
          omega
        · rw [Below.heap_alloc _ _ _ (by simp [World.setCell]; omega), heap_setCell_same _ _ _ _ _ _ (heap_setCell_same _ _ _ _ _ _ Hr3.out)]
          rfl
      case measure => have := Hig.out; omega
    · obtain rfl : i = m := by omega
      go_wp2_with fail
      refine (rwakes_any _).mono ?_
      rintro e w9 ⟨rfl, hb9⟩
      go_wp2_with fail
      go_ret
      exact ⟨rfl, hbr.trans (hb9.mono hbr.size)⟩
end Go.Proofs.Ytebfaghgcecacaa
