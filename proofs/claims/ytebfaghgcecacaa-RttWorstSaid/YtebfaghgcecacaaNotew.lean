/-
  The walks of rtt.Note and the page's.
-/
import Derived.Test.YtebfaghgcecacaaNote
namespace Go.Proofs.Ytebfaghgcecacaa
open Go.RowKit
def halfV (x : Nat) : Nat := dv x 4611686018427387904
/-- What is known behind one more answer. -/
def noteV (m v x : Nat) : Nat × Nat :=
  if isNan m = true then (rg x, if rg x = 9218868437227405312 then 9218868437227405312 else halfV (rg x))
  else (smoothV m (rg x) 4620693217682128896, smoothV v (apartV (rg x) m) 4616189618054758400)
/-- Does an answer count? -/
def noteB (m v x : Nat) : Bool := chk m v && (!isNan x && decide (0 ≤ rk x))
def NotePost (m v x : Nat) (w : World) (e : Ending) (w' : World) : Prop :=
  e = .returned (if noteB m v x = true then .tuple #[.agg #[.float .f64 (noteV m v x).1, .float .f64 (noteV m v x).2], .int .i64 0] else .tuple #[.agg #[.float .f64 0, .float .f64 0], .int .i64 1]) ∧ Below w.heap.size w w'
theorem half_eq {x : Nat} (hx : x ≤ 9218868437227405312) : Ieee.double.div x 4611686018427387904 = some (if x = 9218868437227405312 then 9218868437227405312 else halfV x) := by
  by_cases h : x = 9218868437227405312
  · rw [if_pos h, h]
    decide +kernel
  · rw [if_neg h]
    exact div_right (by omega) (by omega) (by omega)
set_option maxHeartbeats 3200000 in
theorem Note_no (m v x : Nat) (w : World) (hm : m < 18446744073709551616) (hv : v < 18446744073709551616) (hn : noteB m v x = false) :
    Calls Try.prog 29 #[.agg #[.float .f64 m, .float .f64 v], .float .f64 x] w (NotePost m v x w) := by
  have HP : Hid (∀ w', Below w.heap.size w w' → NotePost m v x w (.returned (.tuple #[.agg #[.float .f64 0, .float .f64 0], .int .i64 1])) w') := by
    intro w' hb
    unfold NotePost
    rw [hn]
    exact ⟨rfl, hb⟩
  have hst := run_store_float
  have hlt := cmp_lt x 0
  have Hck : Hid (∀ W, Calls Try.prog 28 #[.agg #[.float .f64 m, .float .f64 v]] W fun e w' => e = .returned (.int .i64 (if chk m v = true then 0 else 1)) ∧ Below W.heap.size W w') := fun W => Check_any m v W hm hv
  unfold noteB at hn
  cases hc : chk m v
  · rw [hc] at Hck
    simp only [Bool.false_eq_true, if_false] at Hck
    clear hc hn hlt
    go_enter Try.func29, Try.ntmps29
    go_wp2_with fail
    refine (Hck.out _).mono ?_
    rintro e w1 ⟨rfl, hb1⟩
    have hx : w1.heap[w.heap.size + 1]? = some (.cells #[.float .f64 0, .float .f64 0] 24 (0, 0)) := by
      rw [hb1.block _ (by simp)]
      exact heap_alloc2_new w _ _
    have Hx := Lib.hid hx
    clear hx
    go_wp2_with (refine wpList_store_row rfl 24 (.tmp 4) (.tmp 12) rfl (w.heap.size + 1) #[.float .f64 0, .float .f64 0] rfl rfl 24 _ Hx.out size2 rfl (rtt_one _ _) ?_)
    have hl := run_loadVar_row (P := Try.prog) (w1.setRow (w.heap.size + 1) #[.float .f64 0, .float .f64 0]) (w.heap.size + 1) 24 24 #[.float .f64 0, .float .f64 0] (0, 0) _ (setRow_heap _ _ _ _ _ _ Hx.out) Try.underlying24 rfl size2
    exact bodyPost_ret (v := .tuple #[.agg #[.float .f64 0, .float .f64 0], .int .i64 1]) (by simp [results, Try.results29, asAddr, hl]) rfl
      (HP.out _ (below_setRow ((((Below.refl _ _).alloc (Nat.le_refl _) _).alloc (by simp) _).trans (hb1.mono (by simp; omega))) (by omega) _))
  · rw [hc] at Hck hn
    simp only [if_true] at Hck
    rw [Bool.true_and] at hn
    clear hc
    cases nx : isNan x
    case' false =>
      rw [nx, Bool.not_false, Bool.true_and] at hn
      rw [nx] at hlt
      have hneg : ¬ 0 ≤ rk x := by simpa using hn
      simp only [Bool.not_false, Bool.true_and, show isNan 0 = false from rfl] at hlt
      rw [decide_eq_true (show rk x < rk 0 by rw [rk_zero]; omega)] at hlt
      clear hneg
    all_goals
      clear hn
      go_enter Try.func29, Try.ntmps29
      go_wp2_with fail
      refine (Hck.out _).mono ?_
      rintro e w1 ⟨rfl, hb1⟩
      have hx : w1.heap[w.heap.size + 1]? = some (.cells #[.float .f64 0, .float .f64 0] 24 (0, 0)) := by
        rw [hb1.block _ (by simp)]
        exact heap_alloc2_new w _ _
      have Hx := Lib.hid hx
      clear hx
      go_wp2_with (first
        | (go_at_call 36; refine (IsNaN_any _ _).mono ?_; rintro e w2 ⟨rfl, rfl⟩)
        | (refine wpList_store_row rfl 24 (.tmp 4) (.tmp 21) rfl (w.heap.size + 1) #[.float .f64 0, .float .f64 0] rfl rfl 24 _ Hx.out size2 rfl (rtt_one _ _) ?_))
      have hl := run_loadVar_row (P := Try.prog) (w1.setRow (w.heap.size + 1) #[.float .f64 0, .float .f64 0]) (w.heap.size + 1) 24 24 #[.float .f64 0, .float .f64 0] (0, 0) _ (setRow_heap _ _ _ _ _ _ Hx.out) Try.underlying24 rfl size2
      exact bodyPost_ret (v := .tuple #[.agg #[.float .f64 0, .float .f64 0], .int .i64 1]) (by simp [results, Try.results29, asAddr, hl]) rfl
        (HP.out _ (below_setRow ((((Below.refl _ _).alloc (Nat.le_refl _) _).alloc (by simp) _).trans (hb1.mono (by simp; omega))) (by omega) _))
set_option maxRecDepth 100000 in
set_option maxHeartbeats 3200000 in
theorem Note_yes (m v x : Nat) (w : World) (hm : m < 18446744073709551616) (hv : v < 18446744073709551616) (hx : x < 18446744073709551616) (hn : noteB m v x = true) :
    Calls Try.prog 29 #[.agg #[.float .f64 m, .float .f64 v], .float .f64 x] w (NotePost m v x w) := by
  have HP : Hid (∀ w', Below w.heap.size w w' → NotePost m v x w (.returned (.tuple #[.agg #[.float .f64 (noteV m v x).1, .float .f64 (noteV m v x).2], .int .i64 0])) w') := by
    intro w' hb
    unfold NotePost
    rw [hn]
    exact ⟨rfl, hb⟩
  have hst := run_store_float
  have hlt := cmp_lt x 0
  have Hck : Hid (∀ W, Calls Try.prog 28 #[.agg #[.float .f64 m, .float .f64 v]] W fun e w' => e = .returned (.int .i64 (if chk m v = true then 0 else 1)) ∧ Below W.heap.size W w') := fun W => Check_any m v W hm hv
  unfold noteB at hn
  obtain ⟨hc, nx, hge⟩ : chk m v = true ∧ isNan x = false ∧ 0 ≤ rk x := by simpa using hn
  rw [hc] at Hck
  simp only [if_true] at Hck
  rw [nx] at hlt
  simp only [Bool.not_false, Bool.true_and, show isNan 0 = false from rfl] at hlt
  rw [decide_eq_false (show ¬ rk x < rk 0 by rw [rk_zero]; omega)] at hlt
  have hr := isNan_false nx
  have HA : Hid (∀ w, Calls Try.prog 37 #[.float .f64 x] w fun e w' => e = .returned (.float .f64 (rg x)) ∧ w = w') := fun w => Abs_any x w hx
  have hkn : ∀ w, Calls Try.prog 52 #[.agg #[.float .f64 m, .float .f64 v]] w fun e w' => e = .returned (.bool (!isNan m)) ∧ Below w.heap.size w w' := fun w => known_any m v w
  cases nm : isNan m
  case true =>
    have hV : Hid (noteV m v x = (rg x, if rg x = 9218868437227405312 then 9218868437227405312 else halfV (rg x))) := by unfold Hid noteV; rw [if_pos nm]
    have hd := half_eq hr
    rw [nm] at hkn
    have Hkn := Lib.hid hkn
    obtain ⟨X, hX⟩ : ∃ X, rg x = X := ⟨_, rfl⟩
    rw [hX] at hV HA hd
    obtain ⟨Y, hY⟩ : ∃ Y, (if X = 9218868437227405312 then 9218868437227405312 else halfV X) = Y := ⟨_, rfl⟩
    rw [hY] at hV hd
    have q1 := fun w => run_float_arith (P := Try.prog) w .quo 22 .f64 X 4611686018427387904 Y hd
    rw [hV.out] at HP
    clear hkn hX hY hd hr hge hc hn
    go_enter Try.func29, Try.ntmps29
    go_wp2_with fail
    refine (Hck.out _).mono ?_
    rintro e w1 ⟨rfl, hb1⟩
    have h0 : w1.heap[w.heap.size + 1]? = some (.cells #[.float .f64 0, .float .f64 0] 24 (0, 0)) := by
      rw [hb1.block _ (by simp)]
      exact heap_alloc2_new w _ _
    have h1 : w1.heap[w.heap.size]? = some (.cells #[.float .f64 m, .float .f64 v] 24 (0, 0)) := by
      rw [hb1.block _ (by simp; omega)]
      exact heap_alloc2_old w _ _
    have hz1 : w.heap.size + 2 ≤ w1.heap.size := by have := hb1.size; simp at this; omega
    have hbw1 : Below w.heap.size w w1 := ((((Below.refl _ _).alloc (Nat.le_refl _) _).alloc (by simp) _).trans (hb1.mono (by simp; omega)))
    have c0 : w1.cell? ⟨w.heap.size, 0, none⟩ = some (.float .f64 m) := cell_of_row _ _ _ _ _ _ h1
    have c1 : w1.cell? ⟨w.heap.size, 1, none⟩ = some (.float .f64 v) := cell_of_row _ _ _ _ _ _ h1
    have H0 := Lib.hid h0
    clear h0 h1 hb1
    go_wp2_with (first
      | (go_at_call 36; refine (IsNaN_any _ _).mono ?_; rintro e w2 ⟨rfl, rfl⟩)
      | (go_at_call 37; refine (HA.out _).mono ?_; rintro e w2 ⟨rfl, rfl⟩))
    refine (Hkn.out _).mono ?_
    rintro e w2 ⟨rfl, hb2⟩
    have H2 : Hid (w2.heap[w.heap.size + 1]? = some (.cells #[.float .f64 0, .float .f64 0] 24 (0, 0))) := (hb2.block _ (by omega)).trans H0.out
    clear c0 c1
    go_wp2_with (refine wpList_store_row rfl 24 (.tmp 4) (.tmp 30) rfl (w.heap.size + 1) #[.float .f64 X, .float .f64 Y] rfl rfl 24 _ H2.out size2 rfl (rtt_one _ _) ?_)
    have hl := run_loadVar_row (P := Try.prog) (w2.setRow (w.heap.size + 1) #[.float .f64 X, .float .f64 Y]) (w.heap.size + 1) 24 24 #[.float .f64 X, .float .f64 Y] (0, 0) _ (setRow_heap _ _ _ _ _ _ H2.out) Try.underlying24 rfl size2
    exact bodyPost_ret (v := .tuple #[.agg #[.float .f64 X, .float .f64 Y], .int .i64 0]) (by simp [results, Try.results29, asAddr, hl]) rfl
      (HP.out _ (below_setRow (hbw1.trans (hb2.mono (by omega))) (by omega) _))
  case false =>
    have hmv : rightB m = true ∧ rightB v = true := by
      unfold chk at hc
      rw [nm] at hc
      simpa using hc
    have hml := right_le hmv.1 hm
    have hV : Hid (noteV m v x = (smoothV m (rg x) 4620693217682128896, smoothV v (apartV (rg x) m) 4616189618054758400)) := by unfold Hid noteV; rw [if_neg (by rw [nm]; decide)]
    have Hap : Hid (∀ w, Calls Try.prog 54 #[.float .f64 (rg x), .float .f64 m] w (Qt w (.float .f64 (apartV (rg x) m)))) := fun w => apart_any _ _ w hr hml
    have Hs1 : Hid (∀ w, Calls Try.prog 53 #[.float .f64 m, .float .f64 (rg x), .float .f64 4620693217682128896] w (Qt w (.float .f64 (smoothV m (rg x) 4620693217682128896)))) := fun w => smooth_any _ _ _ w (by decide) (by decide)
    have Hs2 : Hid (∀ w, Calls Try.prog 53 #[.float .f64 v, .float .f64 (apartV (rg x) m), .float .f64 4616189618054758400] w (Qt w (.float .f64 (smoothV v (apartV (rg x) m) 4616189618054758400)))) := fun w => smooth_any _ _ _ w (by decide) (by decide)
    unfold Qt at Hap Hs1 Hs2
    rw [nm] at hkn
    have Hkn := Lib.hid hkn
    obtain ⟨X, hX⟩ : ∃ X, rg x = X := ⟨_, rfl⟩
    rw [hX] at hV HA Hap Hs1 Hs2
    obtain ⟨a, ha⟩ : ∃ a, apartV X m = a := ⟨_, rfl⟩
    rw [ha] at hV Hap Hs2
    obtain ⟨s1, hs1⟩ : ∃ s1, smoothV m X 4620693217682128896 = s1 := ⟨_, rfl⟩
    obtain ⟨s2, hs2⟩ : ∃ s2, smoothV v a 4616189618054758400 = s2 := ⟨_, rfl⟩
    rw [hs1] at hV Hs1
    rw [hs2] at hV Hs2
    rw [hV.out] at HP
    clear hkn hX ha hs1 hs2 hr hge hc hn hmv hml
    go_enter Try.func29, Try.ntmps29
    go_wp2_with fail
    refine (Hck.out _).mono ?_
    rintro e w1 ⟨rfl, hb1⟩
    have h0 : w1.heap[w.heap.size + 1]? = some (.cells #[.float .f64 0, .float .f64 0] 24 (0, 0)) := by
      rw [hb1.block _ (by simp)]
      exact heap_alloc2_new w _ _
    have h1 : w1.heap[w.heap.size]? = some (.cells #[.float .f64 m, .float .f64 v] 24 (0, 0)) := by
      rw [hb1.block _ (by simp; omega)]
      exact heap_alloc2_old w _ _
    have hz1 : w.heap.size + 2 ≤ w1.heap.size := by have := hb1.size; simp at this; omega
    have hbw1 : Below w.heap.size w w1 := ((((Below.refl _ _).alloc (Nat.le_refl _) _).alloc (by simp) _).trans (hb1.mono (by simp; omega)))
    have c0 : w1.cell? ⟨w.heap.size, 0, none⟩ = some (.float .f64 m) := cell_of_row _ _ _ _ _ _ h1
    have c1 : w1.cell? ⟨w.heap.size, 1, none⟩ = some (.float .f64 v) := cell_of_row _ _ _ _ _ _ h1
    have H0 := Lib.hid h0
    have H1 := Lib.hid h1
    clear h0 h1 hb1
    go_wp2_with (first
      | (go_at_call 36; refine (IsNaN_any _ _).mono ?_; rintro e w2 ⟨rfl, rfl⟩)
      | (go_at_call 37; refine (HA.out _).mono ?_; rintro e w2 ⟨rfl, rfl⟩))
    refine (Hkn.out _).mono ?_
    rintro e w2 ⟨rfl, hb2⟩
    have H2 : Hid (w2.heap[w.heap.size + 1]? = some (.cells #[.float .f64 0, .float .f64 0] 24 (0, 0))) := (hb2.block _ (by omega)).trans H0.out
    have H3 : Hid (w2.heap[w.heap.size]? = some (.cells #[.float .f64 m, .float .f64 v] 24 (0, 0))) := (hb2.block _ (by omega)).trans H1.out
    have hbw2 := hbw1.trans (hb2.mono (show w.heap.size ≤ _ by omega))
    clear c0 c1 hb2
    go_wp2_with fail
    have Hk : Hid (∀ w' : World, w'.heap[w.heap.size]? = some (.cells #[.float .f64 m, .float .f64 v] 24 (0, 0)) → w'.cell? ⟨w.heap.size, 0, none⟩ = some (.float .f64 m) ∧ w'.cell? ⟨w.heap.size, 1, none⟩ = some (.float .f64 v)) := fun w' h => ⟨cell_of_row _ _ _ _ _ _ h, cell_of_row _ _ _ _ _ _ h⟩
    have Hk2 : Hid (∀ (w' : World) u0 u1, w'.heap[w.heap.size]? = some (.cells #[.float .f64 m, .float .f64 v] 24 (0, 0)) → ((w'.setCell ⟨w.heap.size + 1, 0, none⟩ u0).setCell ⟨w.heap.size + 1, 1, none⟩ u1).cell? ⟨w.heap.size, 0, none⟩ = some (.float .f64 m) ∧ ((w'.setCell ⟨w.heap.size + 1, 0, none⟩ u0).setCell ⟨w.heap.size + 1, 1, none⟩ u1).cell? ⟨w.heap.size, 1, none⟩ = some (.float .f64 v)) := fun w' u0 u1 h =>
      Hk.out _ ((Below.heap_setCell _ _ _ _ (by show w.heap.size ≠ w.heap.size + 1; omega)).trans ((Below.heap_setCell _ _ _ _ (by show w.heap.size ≠ w.heap.size + 1; omega)).trans h))
    have z0 : w2.cell? ⟨w.heap.size + 1, 0, none⟩ = some (.float .f64 0) := cell_of_row _ _ _ _ _ _ H2.out
    have z1 : w2.cell? ⟨w.heap.size + 1, 1, none⟩ = some (.float .f64 0) := cell_of_row _ _ _ _ _ _ H2.out
    have f0 : w2.frozen? ⟨w.heap.size + 1, 0, none⟩ = false := frozen_of_row _ _ _ _ _ H2.out
    have f1 : w2.frozen? ⟨w.heap.size + 1, 1, none⟩ = false := frozen_of_row _ _ _ _ _ H2.out
    go_region_held3 (fun w' => w'.cell? ⟨w.heap.size, 0, none⟩ = some (.float .f64 m) ∧ w'.cell? ⟨w.heap.size, 1, none⟩ = some (.float .f64 v))
      ((first | assumption | exact Hk.out _ H3.out | exact Hk2.out _ _ _ H3.out))
      ((first
        | (go_at_call 54
           refine (Hap.out _).mono ?_
           rintro e w3 ⟨rfl, k3, rfl⟩)
        | (go_at_call 53
           (with_reducible refine (Hs1.out _).mono ?_)
           rintro e w3 ⟨rfl, k4, rfl⟩)
        | (go_at_call 53
           (with_reducible refine (Hs2.out _).mono ?_)
           rintro e w3 ⟨rfl, k5, rfl⟩)))
    go_wp2_with fail
    have hl := fun k => run_loadVar_row (P := Try.prog) (((w2.drewN k).setCell ⟨w.heap.size + 1, 0, none⟩ (.float .f64 s1)).setCell ⟨w.heap.size + 1, 1, none⟩ (.float .f64 s2)) (w.heap.size + 1) 24 24 #[.float .f64 s1, .float .f64 s2] (0, 0) _
      (by rw [heap_setCell_same _ _ _ _ _ _ (heap_setCell_same _ _ _ _ _ _ (show (w2.drewN k).heap[w.heap.size + 1]? = _ from H2.out))]; rfl) Try.underlying24 rfl size2
    exact bodyPost_ret (v := .tuple #[.agg #[.float .f64 s1, .float .f64 s2], .int .i64 0]) (by simp [results, Try.results29, asAddr, hl]) rfl
      (HP.out _ (((below_drewN hbw2 _).setCell (by show w.heap.size ≤ w.heap.size + 1; omega) _).setCell (by show w.heap.size ≤ w.heap.size + 1; omega) _))
theorem Note_any (m v x : Nat) (w : World) (hm : m < 18446744073709551616) (hv : v < 18446744073709551616) (hx : x < 18446744073709551616) :
    Calls Try.prog 29 #[.agg #[.float .f64 m, .float .f64 v], .float .f64 x] w (NotePost m v x w) := by
  cases hn : noteB m v x
  · exact Note_no m v x w hm hv hn
  · exact Note_yes m v x w hm hv hx hn
/-! ### The page's -/
def heldV (x : Nat) : Nat := if isNan x = true then 9218868437227405312 else if 0 < rk x then x else 0
theorem held_right {x : Nat} (lx : x < 18446744073709551616) (nx : isNan x = false) : heldV x = if rightB x = true then x else 0 := by
  unfold heldV
  rw [nx, right_eq, nx]
  simp only [Bool.false_eq_true, if_false, Bool.not_false, Bool.true_and]
  have := wd_self lx
  unfold rk
  unfold wd at this
  cases hs : sg x
  · rw [hs] at this
    simp only [Bool.false_eq_true, if_false, Bool.not_false, Bool.and_true] at this ⊢
    by_cases h0 : rg x = 0
    · rw [h0] at this ⊢
      simp [← this]
    · rw [if_pos (by omega), if_pos (by simp)]
  · simp only [if_true, Bool.not_true, Bool.and_false, Bool.false_eq_true, if_false]
    rw [if_neg (by omega)]
set_option maxHeartbeats 400000 in
theorem held_any (x : Nat) (w : World) : Calls Try.prog 55 #[.float .f64 x] w fun e w' => e = .returned (.float .f64 (heldV x)) ∧ w = w' := by
  have hne := cmp_ne_self x
  have hgt := cmp_gt x 0
  unfold heldV
  cases nx : isNan x
  case true =>
    rw [nx] at hne
    rw [if_pos rfl]
    clear hgt nx
    go_enter Try.func55, Try.ntmps55
    go_wp2_with (refine (Refinf_any _).mono ?_; rintro e w1 ⟨rfl, rfl⟩)
    go_ret
    exact ⟨rfl, rfl⟩
  rw [nx] at hne hgt
  simp only [Bool.not_false, Bool.true_and, show isNan 0 = false from rfl] at hgt
  simp only [Bool.false_eq_true, if_false]
  by_cases h : 0 < rk x
  · rw [if_pos h]
    rw [decide_eq_true (show rk 0 < rk x by rw [rk_zero]; exact h)] at hgt
    clear nx h
    go_enter Try.func55, Try.ntmps55
    go_wp2_with fail
    go_ret
    exact ⟨rfl, rfl⟩
  · rw [if_neg h]
    rw [decide_eq_false (show ¬ rk 0 < rk x by rw [rk_zero]; exact h)] at hgt
    clear nx h
    go_enter Try.func55, Try.ntmps55
    go_wp2_with fail
    go_ret
    exact ⟨rfl, rfl⟩
end Go.Proofs.Ytebfaghgcecacaa
