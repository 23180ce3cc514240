/-
  The walk of RttMore.
-/
import Derived.Test.YtebfaghgcecacaaMorem
import Derived.RegionCalls
namespace Go.Proofs.Ytebfaghgcecacaa
open Go.RowKit
/-- Is it infinity? -/
def infB (x : Nat) : Bool := !isNan x && decide (9218868437227405311 < rk x)
set_option maxHeartbeats 400000 in
theorem IsInf_one (x : Nat) (w : World) : Calls Try.prog 14 #[.float .f64 x, .int .i64 1] w fun e w' => e = .returned (.bool (infB x)) ∧ w = w' := by
  have hg := cmp_gt x 9218868437227405311
  rw [show isNan 9218868437227405311 = false by decide, show rk 9218868437227405311 = 9218868437227405311 by decide, Bool.not_false, Bool.and_true] at hg
  go_enter Try.func14, Try.ntmps14
  go_wp2_with fail
  go_ret
  exact ⟨rfl, rfl⟩
theorem not_inf {x : Nat} (h : infB x = false) (k : 0 ≤ rk x) (n : isNan x = false) : rg x < 9218868437227405312 := by
  unfold infB at h
  rw [n] at h
  have hr := isNan_false n
  simp at h
  unfold rk at h k
  split at h <;> split at k <;> simp_all <;> omega
set_option maxRecDepth 100000 in
set_option maxHeartbeats 6400000 in
theorem more_walk (m v x y : Nat) (lo hi : Int) (W : World) (hm : m < 18446744073709551616) (hv : v < 18446744073709551616) (hx : x < 18446744073709551616) (hy : y < 18446744073709551616) :
    Calls Try.prog 10 #[.agg #[.float .f64 m, .float .f64 v], .float .f64 x, .float .f64 y, .int .i64 lo, .int .i64 hi] W fun e w' => e = .returned (.bool true) ∧ Below W.heap.size W w' := by
  have HN : Hid (∀ w, Calls Try.prog 29 #[.agg #[.float .f64 m, .float .f64 v], .float .f64 x] w (NotePost m v x w)) := fun w => Note_any m v x w hm hv hx
  have HM : Hid (∀ w, Calls Try.prog 29 #[.agg #[.float .f64 m, .float .f64 v], .float .f64 y] w (NotePost m v y w)) := fun w => Note_any m v y w hm hv hy
  unfold NotePost at HN HM
  have hst := run_store_float
  obtain ⟨W1, hW1⟩ : ∃ W1, W.alloc (.cells #[.float .f64 m, .float .f64 v] 24) = W1 := ⟨_, rfl⟩
  have hrow : ∀ w' : World, Below W1.heap.size W1 w' → w'.cell? ⟨W.heap.size, 0, none⟩ = some (.float .f64 m) ∧ w'.cell? ⟨W.heap.size, 1, none⟩ = some (.float .f64 v) := fun w' hb => by
    have h : w'.heap[W.heap.size]? = some (.cells #[.float .f64 m, .float .f64 v] 24 (0, 0)) := by
      rw [hb.block _ (by rw [← hW1]; simp), ← hW1]
      exact heap_alloc_new W _
    exact ⟨cell_of_row _ _ _ _ _ _ h, cell_of_row _ _ _ _ _ _ h⟩
  have Hrow := Lib.hid hrow
  have hbW : Below W.heap.size W W1 := by rw [← hW1]; exact (Below.refl _ _).alloc (Nat.le_refl _) _
  have hzW : W1.heap.size = W.heap.size + 1 := by rw [← hW1]; simp
  have HW1 := Lib.hid hW1
  clear hrow hW1
  have hlx := cmp_le x y
  -- what the two notes give
  obtain ⟨a1, ha1⟩ : ∃ a1, (if noteB m v x = true then (noteV m v x).1 else 0) = a1 := ⟨_, rfl⟩
  obtain ⟨a2, ha2⟩ : ∃ a2, (if noteB m v x = true then (noteV m v x).2 else 0) = a2 := ⟨_, rfl⟩
  obtain ⟨b1, hb1⟩ : ∃ b1, (if noteB m v y = true then (noteV m v y).1 else 0) = b1 := ⟨_, rfl⟩
  obtain ⟨b2, hb2⟩ : ∃ b2, (if noteB m v y = true then (noteV m v y).2 else 0) = b2 := ⟨_, rfl⟩
  cases hbx : noteB m v x
  case' true => cases hby : noteB m v y
  case' true.true => cases hle : (!isNan x && !isNan y && decide (rk x ≤ rk y))
  case' true.true.true => cases hix : infB x
  case' true.true.true.false => cases hiy : infB y
  case' true.true.true.false.false => cases him : infB m
  case' false =>
    obtain ⟨f1, hf1⟩ : ∃ f : Int, (if noteB m v y = true then (0 : Int) else 1) = f := ⟨_, rfl⟩
    have e2 : (if noteB m v y = true then Value.tuple #[.agg #[.float .f64 (noteV m v y).1, .float .f64 (noteV m v y).2], .int .i64 0] else .tuple #[.agg #[.float .f64 0, .float .f64 0], .int .i64 1]) = .tuple #[.agg #[.float .f64 b1, .float .f64 b2], .int .i64 f1] := by
      rw [← hb1, ← hb2, ← hf1]
      split <;> rfl
    rw [e2] at HM
    clear e2 hf1
  case' true.false => skip
  case' true.true.true.false.false.false =>
    -- the main way
    obtain ⟨⟨nx, ny⟩, hxy⟩ : (isNan x = false ∧ isNan y = false) ∧ rk x ≤ rk y := by simpa using hle
    have kx : 0 ≤ rk x := by unfold noteB at hbx; simp at hbx; exact hbx.2.2
    have fx := not_inf hix kx nx
    have fy := not_inf hiy (by omega) ny
    have fm : isNan m = true ∨ rg m < 9218868437227405312 := by
      cases nm : isNan m
      · right
        have hc : chk m v = true := by unfold noteB at hbx; simp at hbx; exact hbx.1
        obtain ⟨r1, _⟩ := right_not hc nm
        have := (right_sg r1)
        exact not_inf him (by rw [rk_of_right hm r1]; omega) nm
      · left; rfl
    have hmono := note_mono hm hv hbx hby fm fx fy hxy
    obtain ⟨la1, la2⟩ := note_right hbx
    obtain ⟨lb1, lb2⟩ := note_right hby
    rw [if_pos hbx] at ha1 ha2
    rw [if_pos hby] at hb1 hb2
    rw [ha1] at hmono la1
    rw [hb1] at hmono lb1
    rw [ha2] at la2
    have tB1 : toutB a1 a2 lo hi = decide (1 ≤ lo ∧ lo ≤ hi ∧ hi ≤ 1000) := by unfold toutB; rw [steady_chk la1 la2, Bool.true_and]
    have tB2 : toutB b1 a2 lo hi = decide (1 ≤ lo ∧ lo ≤ hi ∧ hi ≤ 1000) := by unfold toutB; rw [steady_chk lb1 la2, Bool.true_and]
    have tV := tout_mono (v := a2) (lo := lo) (hi := hi) la1 lb1 hmono
    have hlb : lessB b1 a1 = false := by rw [less_small lb1 la1]; exact decide_eq_false (by omega)
    have HT : Hid (∀ w, Calls Try.prog 31 #[.agg #[.float .f64 a1, .float .f64 a2], .int .i64 lo, .int .i64 hi] w (ToutPost a1 a2 lo hi w)) := fun w => Timeout_any a1 a2 lo hi w (by omega) (by omega)
    have HU : Hid (∀ w, Calls Try.prog 31 #[.agg #[.float .f64 b1, .float .f64 a2], .int .i64 lo, .int .i64 hi] w (ToutPost b1 a2 lo hi w)) := fun w => Timeout_any b1 a2 lo hi w (by omega) (by omega)
    have HL : Hid (∀ w, Calls Try.prog 18 #[.float .f64 b1, .float .f64 a1] w fun e w' => e = .returned (.bool false) ∧ w = w') := fun w => by
      have := RefLess_any b1 a1 w (by omega) (by omega)
      rw [hlb] at this
      exact this
    unfold ToutPost at HT HU
    rw [tB1] at HT
    rw [tB2] at HU
    obtain ⟨u1, hu1⟩ : ∃ u, toutV a1 a2 lo hi = u := ⟨_, rfl⟩
    obtain ⟨u2, hu2⟩ : ∃ u, toutV b1 a2 lo hi = u := ⟨_, rfl⟩
    rw [hu1] at HT tV
    rw [hu2] at HU tV
    clear hu1 hu2 tB1 tB2 hlb la1 la2 lb1 lb2 hmono fm fx fy kx hxy nx ny
    cases hsp : decide (1 ≤ lo ∧ lo ≤ hi ∧ hi ≤ 1000)
  all_goals
    first
      | (rw [hbx, if_neg (by decide)] at ha1 ha2
         have HN2 : Hid (∀ w, Calls Try.prog 29 #[.agg #[.float .f64 m, .float .f64 v], .float .f64 x] w fun e w' => e = .returned (.tuple #[.agg #[.float .f64 a1, .float .f64 a2], .int .i64 1]) ∧ Below w.heap.size w w') := by
           rw [hbx] at HN
           simp only [Bool.false_eq_true, if_false] at HN
           rw [← ha1, ← ha2]
           exact HN)
      | (first | rw [if_pos hbx] at ha1 ha2 | skip
         have HN2 : Hid (∀ w, Calls Try.prog 29 #[.agg #[.float .f64 m, .float .f64 v], .float .f64 x] w fun e w' => e = .returned (.tuple #[.agg #[.float .f64 a1, .float .f64 a2], .int .i64 0]) ∧ Below w.heap.size w w') := by
           rw [hbx] at HN
           simp only [if_true] at HN
           rw [← ha1, ← ha2]
           exact HN)
    first
      | (have HM2 : Hid (∀ w, Calls Try.prog 29 #[.agg #[.float .f64 m, .float .f64 v], .float .f64 y] w fun e w' => e = .returned (.tuple #[.agg #[.float .f64 b1, .float .f64 b2], .int .i64 f1]) ∧ Below w.heap.size w w') := HM)
      | (rw [hby, if_neg (by decide)] at hb1 hb2
         have HM2 : Hid (∀ w, Calls Try.prog 29 #[.agg #[.float .f64 m, .float .f64 v], .float .f64 y] w fun e w' => e = .returned (.tuple #[.agg #[.float .f64 b1, .float .f64 b2], .int .i64 1]) ∧ Below w.heap.size w w') := by
           rw [hby] at HM
           simp only [Bool.false_eq_true, if_false] at HM
           rw [← hb1, ← hb2]
           exact HM)
      | (first | rw [if_pos hby] at hb1 hb2 | skip
         have HM2 : Hid (∀ w, Calls Try.prog 29 #[.agg #[.float .f64 m, .float .f64 v], .float .f64 y] w fun e w' => e = .returned (.tuple #[.agg #[.float .f64 b1, .float .f64 b2], .int .i64 0]) ∧ Below w.heap.size w w') := by
           rw [hby] at HM
           simp only [if_true] at HM
           rw [← hb1, ← hb2]
           exact HM)
    try rw [hle] at hlx
    clear HN HM ha1 ha2 hb1 hb2
    go_enter Try.func10, Try.ntmps10
    go_wp2_with fail
    rw [HW1.out]
    have hbc : Below W1.heap.size W1 W1 := Below.refl _ _
    obtain ⟨y0, y1⟩ := Hrow.out _ hbc
    go_wp2_with fail
    refine (HN2.out _).mono ?_
    rintro e w3 ⟨rfl, hb3⟩
    have hbw3 := hbc.trans (hb3.mono hbc.size)
    have hz3 : W1.heap.size ≤ w3.heap.size := hbw3.size
    clear y0 y1 hbc hb3
    obtain ⟨y0, y1⟩ := Hrow.out _ hbw3
    have hn3 : W.heap.size < w3.heap.size := by omega
    go_wp2_with fail
    refine (HM2.out _).mono ?_
    rintro e w4 ⟨rfl, hb4⟩
    have hbw4 : Below W1.heap.size W1 w4 := (hbw3.alloc hz3 _).trans (hb4.mono (by simp; omega))
    have hz4 : W1.heap.size ≤ w4.heap.size := hbw4.size
    have hz34 : w3.heap.size < w4.heap.size := by have := hb4.size; simp at this; omega
    have hr4 : w4.heap[w3.heap.size]? = some (.cells #[.float .f64 a1, .float .f64 a2] 24 (0, 0)) := by
      rw [hb4.block _ (by simp)]
      exact heap_alloc_new w3 _
    have Hr4 := Lib.hid hr4
    clear hr4 hb4 y0 y1
    obtain ⟨w5, hw5⟩ : ∃ w5, w4.alloc (.cells #[.float .f64 b1, .float .f64 b2] 24) = w5 := ⟨_, rfl⟩
    have hbw5 : Below W1.heap.size W1 w5 := by rw [← hw5]; exact hbw4.alloc hz4 _
    have hz5 : w5.heap.size = w4.heap.size + 1 := by rw [← hw5]; simp
    have hra : Hid (∀ w', Below w5.heap.size w5 w' → w'.cell? ⟨w3.heap.size, 0, none⟩ = some (.float .f64 a1) ∧ w'.cell? ⟨w3.heap.size, 1, none⟩ = some (.float .f64 a2) ∧ w'.cell? ⟨w4.heap.size, 0, none⟩ = some (.float .f64 b1) ∧ w'.cell? ⟨w4.heap.size, 1, none⟩ = some (.float .f64 b2)) := fun w' hb => by
      have h1 : w'.heap[w3.heap.size]? = some (.cells #[.float .f64 a1, .float .f64 a2] 24 (0, 0)) := by
        rw [hb.block _ (by omega), ← hw5, Below.heap_alloc _ _ _ hz34]
        exact Hr4.out
      have h2 : w'.heap[w4.heap.size]? = some (.cells #[.float .f64 b1, .float .f64 b2] 24 (0, 0)) := by
        rw [hb.block _ (by omega), ← hw5]
        exact heap_alloc_new w4 _
      exact ⟨cell_of_row _ _ _ _ _ _ h1, cell_of_row _ _ _ _ _ _ h1, cell_of_row _ _ _ _ _ _ h2, cell_of_row _ _ _ _ _ _ h2⟩
    obtain ⟨y0, y1⟩ := Hrow.out _ hbw5
    obtain ⟨z0, z1, z2, z3⟩ := hra.out _ (Below.refl _ _)
    have Hw5 := Lib.hid hw5
    clear hw5
    go_wp2_with fail
    rw [Hw5.out]
    go_wp2_with (first
      | (go_at_call 14; refine (IsInf_one _ _).mono ?_; rintro e w6 ⟨rfl, rfl⟩))
  all_goals try (
    refine (rwakes_any _).mono ?_
    rintro e w8 ⟨rfl, hb8⟩
    go_wp2_with fail
    go_ret
    exact ⟨rfl, hbW.trans ((hbw5.trans (hb8.mono hbw5.size)).mono (by omega))⟩)
  all_goals
    rw [hsp] at HT HU
    simp only [Bool.false_eq_true, if_false, if_true] at HT HU
    refine (HL.out _).mono ?_
    rintro e w6 ⟨rfl, rfl⟩
    go_wp2_with fail
    refine (HT.out _).mono ?_
    rintro e w6 ⟨rfl, hb6⟩
    have hbw6 := hbw5.trans (hb6.mono hbw5.size)
    have hz6 : w5.heap.size ≤ w6.heap.size := hb6.size
    clear y0 y1 z0 z1 z2 z3
    obtain ⟨z0, z1, z2, z3⟩ := hra.out _ hb6
    go_wp2_with fail
    refine (HU.out _).mono ?_
    rintro e w7 ⟨rfl, hb7⟩
    have hbw7 := hbw6.trans (hb7.mono hbw6.size)
    go_wp2_with fail
    refine (rwakes_any _).mono ?_
    rintro e w8 ⟨rfl, hb8⟩
    go_wp2_with fail
    go_ret
    exact ⟨rfl, hbW.trans ((hbw7.trans (hb8.mono hbw7.size)).mono (by omega))⟩
end Go.Proofs.Ytebfaghgcecacaa
