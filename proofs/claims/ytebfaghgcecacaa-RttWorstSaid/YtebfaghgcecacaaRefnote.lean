/-
  The walk of the page's Note.
-/
import Derived.Test.YtebfaghgcecacaaNotew
namespace Go.Proofs.Ytebfaghgcecacaa
open Go.RowKit
theorem maxW_rk {p q : Nat} (hp : isNan p = false) (hq : isNan q = false) (h : rk p = rk q → p = 0 ∧ q = 0) : maxW p q = if rk p < rk q then q else p := by
  unfold maxW
  by_cases he : rk p = rk q
  · obtain ⟨rfl, rfl⟩ := h he
    rfl
  · rw [less_ne hp hq he]
    by_cases hl : rk p < rk q <;> simp [hl]
theorem smooth_none {was is c : Nat} (h : Ieee.double.sub is was = none) : smoothV was is c = 9218868437227405312 := by
  have : stepO was is c = none := by unfold stepO; rw [h]; rfl
  unfold smoothV
  rw [this]
theorem smooth_none2 {was is c s t : Nat} (h1 : Ieee.double.sub is was = some s) (h2 : Ieee.double.div s c = some t) (h3 : Ieee.double.add was t = none) : smoothV was is c = 9218868437227405312 := by
  have : stepO was is c = none := by unfold stepO; rw [h1, Option.bind_some, h2, Option.bind_some, h3]
  unfold smoothV
  rw [this]
theorem smooth_some {was is c s t x : Nat} (h1 : Ieee.double.sub is was = some s) (h2 : Ieee.double.div s c = some t) (h3 : Ieee.double.add was t = some x) : smoothV was is c = heldV x := by
  obtain ⟨nx, lx⟩ := add_ok h3
  have : stepO was is c = some x := by unfold stepO; rw [h1, Option.bind_some, h2, Option.bind_some, h3]
  rw [held_right lx nx]
  unfold smoothV
  rw [this]
theorem held_nan (w : World) (a b : Nat) : heldV (nanOf w a b) = 9218868437227405312 := by unfold heldV; rw [if_pos (nanOf_nan w a b).1]
/-- An estimate in a cell, and a number, as results. -/
theorem results_rtt2 {fn : Func} (h : fn.results = #[.cell 4 24, .tmp 5]) (tmps : Array Value) (w : World) (g a b : Nat) (n : Int)
    (hp : tmps.getD 4 undef = .pointer (some ⟨g, 0, none⟩)) (h5 : tmps.getD 5 undef = .int .i64 n) (hg : w.heap[g]? = some (.cells #[.float .f64 a, .float .f64 b] 24 (0, 0))) :
    (results fn tmps).run Try.prog w = .ok (.tuple #[.agg #[.float .f64 a, .float .f64 b], .int .i64 n]) w := by
  have hl := run_loadVar_row (P := Try.prog) w g 24 24 #[.float .f64 a, .float .f64 b] (0, 0) _ hg Try.underlying24 rfl size2
  have hp' : tmps[4]?.getD undef = .pointer (some ⟨g, 0, none⟩) := by simpa using hp
  have h5' : tmps[5]?.getD undef = .int .i64 n := by simpa using h5
  simp [results, h, hp', h5', asAddr, hl]
/-- The last sum of a smoothing, whatever it is. -/
theorem smooth_abs {was is c s t : Nat} (h1 : Ieee.double.sub is was = some s) (h2 : Ieee.double.div s c = some t) : ∃ (f : World → Nat) (k : Nat),
    (∀ w, (binOp .add 22 (.float .f64 was) (.float .f64 t)).run Try.prog w = .ok (.float .f64 (f w)) (w.drewN k)) ∧ ∀ w, heldV (f w) = smoothV was is c := by
  cases h3 : Ieee.double.add was t with
  | none => exact ⟨fun w => nanOf w was t, 1, fun w => run_float_nan (P := Try.prog) w .add 22 was t (by simp) h3, fun w => by rw [held_nan, smooth_none2 h1 h2 h3]⟩
  | some x => exact ⟨fun _ => x, 0, fun w => run_float_arith (P := Try.prog) w .add 22 .f64 was t x h3, fun w => (smooth_some h1 h2 h3).symm⟩
set_option maxHeartbeats 3200000 in
theorem RefNote_no (m v x : Nat) (w : World) (hm : m < 18446744073709551616) (hv : v < 18446744073709551616) (hn : noteB m v x = false) :
    Calls Try.prog 30 #[.agg #[.float .f64 m, .float .f64 v], .float .f64 x] w (NotePost m v x w) := by
  have HP : Hid (∀ w', Below w.heap.size w w' → NotePost m v x w (.returned (.tuple #[.agg #[.float .f64 0, .float .f64 0], .int .i64 1])) w') := by
    intro w' hb
    unfold NotePost
    rw [hn]
    exact ⟨rfl, hb⟩
  have hst := run_store_float
  have hlt := cmp_lt x 0
  have hne := cmp_ne_self x
  have Hck : Hid (∀ W, Calls Try.prog 21 #[.agg #[.float .f64 m, .float .f64 v]] W fun e w' => e = .returned (.bool (chk m v)) ∧ Below W.heap.size W w') := fun W => RefRtt_any m v W hm hv
  unfold noteB at hn
  cases hc : chk m v
  case' true =>
    rw [hc, Bool.true_and] at hn
    cases nx : isNan x
  case' true.true => rw [nx] at hne
  case' true.false =>
    rw [nx] at hne
    rw [nx, Bool.not_false, Bool.true_and] at hn
    rw [nx] at hlt
    have hneg : ¬ 0 ≤ rk x := by simpa using hn
    simp only [Bool.not_false, Bool.true_and, show isNan 0 = false from rfl] at hlt
    rw [decide_eq_true (show rk x < rk 0 by rw [rk_zero]; omega)] at hlt
    clear hneg
  all_goals
    rw [hc] at Hck
    clear hn hc
    go_enter Try.func30, Try.ntmps30
    go_wp2_with fail
    refine (Hck.out _).mono ?_
    rintro e w1 ⟨rfl, hb1⟩
    have hx : w1.heap[w.heap.size + 1]? = some (.cells #[.float .f64 0, .float .f64 0] 24 (0, 0)) := by
      rw [hb1.block _ (by simp)]
      exact heap_alloc2_new w _ _
    have Hx := Lib.hid hx
    clear hx
    go_wp2_with (refine wpList_store_row rfl 24 (.tmp 4) (.tmp 23) rfl (w.heap.size + 1) #[.float .f64 0, .float .f64 0] rfl rfl 24 _ Hx.out size2 rfl (rtt_one _ _) ?_)
    have hl := run_loadVar_row (P := Try.prog) (w1.setRow (w.heap.size + 1) #[.float .f64 0, .float .f64 0]) (w.heap.size + 1) 24 24 #[.float .f64 0, .float .f64 0] (0, 0) _ (setRow_heap _ _ _ _ _ _ Hx.out) Try.underlying24 rfl size2
    exact bodyPost_ret (v := .tuple #[.agg #[.float .f64 0, .float .f64 0], .int .i64 1]) (by simp [results, Try.results30, asAddr, hl]) rfl
      (HP.out _ (below_setRow ((((Below.refl _ _).alloc (Nat.le_refl _) _).alloc (by simp) _).trans (hb1.mono (by simp; omega))) (by omega) _))
set_option maxRecDepth 100000 in
set_option maxHeartbeats 6400000 in
theorem RefNote_yes (m v x : Nat) (w : World) (hm : m < 18446744073709551616) (hv : v < 18446744073709551616) (hx : x < 18446744073709551616) (hn : noteB m v x = true) :
    Calls Try.prog 30 #[.agg #[.float .f64 m, .float .f64 v], .float .f64 x] w (NotePost m v x w) := by
  have HP : Hid (∀ w', Below w.heap.size w w' → NotePost m v x w (.returned (.tuple #[.agg #[.float .f64 (noteV m v x).1, .float .f64 (noteV m v x).2], .int .i64 0])) w') := by
    intro w' hb
    unfold NotePost
    rw [hn]
    exact ⟨rfl, hb⟩
  have hst := run_store_float
  have hlt := cmp_lt x 0
  have hne := cmp_ne_self x
  have heq := cmp_eq x 0
  have Hck : Hid (∀ W, Calls Try.prog 21 #[.agg #[.float .f64 m, .float .f64 v]] W fun e w' => e = .returned (.bool (chk m v)) ∧ Below W.heap.size W w') := fun W => RefRtt_any m v W hm hv
  unfold noteB at hn
  obtain ⟨hc, nx, hge⟩ : chk m v = true ∧ isNan x = false ∧ 0 ≤ rk x := by simpa using hn
  rw [hc] at Hck
  rw [nx] at hlt hne heq
  simp only [Bool.not_false, Bool.true_and, show isNan 0 = false from rfl] at hlt heq
  rw [decide_eq_false (show ¬ rk x < rk 0 by rw [rk_zero]; omega)] at hlt
  have hr := isNan_false nx
  -- the answer, from nought up
  obtain ⟨X, hX⟩ : ∃ X, rg x = X := ⟨_, rfl⟩
  have hH0 : rk x = 0 → X = 0 := fun h => by rw [← hX]; unfold rk at h; split at h <;> omega
  have hH1 : rk x ≠ 0 → heldV x = X := fun h => by
    unfold heldV
    rw [nx, if_neg (by decide), if_pos (by omega), ← hX]
    have := wd_self hx
    unfold rk at h hge
    cases hs : sg x
    · rw [hs] at this
      exact this.symm
    · rw [hs] at h hge
      simp at h hge
      omega
  have HX0 : Hid (rk x = 0 → ∀ w, Calls Try.prog 55 #[.float .f64 0] w fun e w' => e = .returned (.float .f64 X) ∧ w = w') := fun h w => by
    rw [hH0 h]
    exact held_any 0 w
  have HX1 : Hid (rk x ≠ 0 → ∀ w, Calls Try.prog 55 #[.float .f64 x] w fun e w' => e = .returned (.float .f64 X) ∧ w = w') := fun h w => by
    have := held_any x w
    rw [hH1 h] at this
    exact this
  have hkn : ∀ w, Calls Try.prog 45 #[.agg #[.float .f64 m, .float .f64 v]] w fun e w' => e = .returned (.bool (!isNan m)) ∧ Below w.heap.size w w' := fun w => Refknown_any m v w
  have hrX : X ≤ 9218868437227405312 := by omega
  cases nm : isNan m
  case true =>
    have hV : Hid (noteV m v x = (rg x, if rg x = 9218868437227405312 then 9218868437227405312 else halfV (rg x))) := by unfold Hid noteV; rw [if_pos nm]
    have hd := half_eq hrX
    rw [nm] at hkn
    have Hkn := Lib.hid hkn
    rw [hX] at hV
    obtain ⟨Y, hY⟩ : ∃ Y, (if X = 9218868437227405312 then 9218868437227405312 else halfV X) = Y := ⟨_, rfl⟩
    rw [hY] at hV hd
    have q1 := fun w => run_float_arith (P := Try.prog) w .quo 22 .f64 X 4611686018427387904 Y hd
    rw [hV.out] at HP
    clear hkn hY hd hr hc hn hH0 hH1 hX hrX
    by_cases hz : rk x = 0
    case' pos =>
      rw [decide_eq_true (show rk x = rk 0 by rw [rk_zero]; exact hz)] at heq
      have HX := Lib.hid (HX0.out hz)
    case' neg =>
      rw [decide_eq_false (show ¬ rk x = rk 0 by rw [rk_zero]; exact hz)] at heq
      have HX := Lib.hid (HX1.out hz)
    all_goals
      clear hz hge
      go_enter Try.func30, Try.ntmps30
      go_wp2_with fail
      refine (Hck.out _).mono ?_
      rintro e w1 ⟨rfl, hb1⟩
      have h0 : w1.heap[w.heap.size + 1]? = some (.cells #[.float .f64 0, .float .f64 0] 24 (0, 0)) := by
        rw [hb1.block _ (by simp)]
        exact heap_alloc2_new w _ _
      have h1 : w1.heap[w.heap.size]? = some (.cells #[.float .f64 m, .float .f64 v] 24 (0, 0)) := by
        rw [hb1.block _ (by simp; omega)]
        exact heap_alloc2_old w _ _
      have hz1 : w.heap.size + 2 ≤ w1.heap.size := by have := hb1.size; simp at this; omega
      have hbw1 : Below w.heap.size w w1 := ((((Below.refl _ _).alloc (Nat.le_refl _) _).alloc (by simp) _).trans (hb1.mono (by simp; omega)))
      have c0 : w1.cell? ⟨w.heap.size, 0, none⟩ = some (.float .f64 m) := cell_of_row _ _ _ _ _ _ h1
      have c1 : w1.cell? ⟨w.heap.size, 1, none⟩ = some (.float .f64 v) := cell_of_row _ _ _ _ _ _ h1
      have H0 := Lib.hid h0
      clear h0 h1 hb1
      go_wp2_with (go_at_call 55; refine (HX.out _).mono ?_; rintro e w2 ⟨rfl, rfl⟩)
      refine (Hkn.out _).mono ?_
      rintro e w2 ⟨rfl, hb2⟩
      have H2 : Hid (w2.heap[w.heap.size + 1]? = some (.cells #[.float .f64 0, .float .f64 0] 24 (0, 0))) := (hb2.block _ (by omega)).trans H0.out
      clear c0 c1
      go_wp2_with (refine wpList_store_row rfl 24 (.tmp 4) (.tmp 34) rfl (w.heap.size + 1) #[.float .f64 X, .float .f64 Y] rfl rfl 24 _ H2.out size2 rfl (rtt_one _ _) ?_)
      have hl := run_loadVar_row (P := Try.prog) (w2.setRow (w.heap.size + 1) #[.float .f64 X, .float .f64 Y]) (w.heap.size + 1) 24 24 #[.float .f64 X, .float .f64 Y] (0, 0) _ (setRow_heap _ _ _ _ _ _ H2.out) Try.underlying24 rfl size2
      exact bodyPost_ret (v := .tuple #[.agg #[.float .f64 X, .float .f64 Y], .int .i64 0]) (by simp [results, Try.results30, asAddr, hl]) rfl
        (HP.out _ (below_setRow (hbw1.trans (hb2.mono (by omega))) (by omega) _))
  case false =>
    have hmv : rightB m = true ∧ rightB v = true := by
      unfold chk at hc
      rw [nm] at hc
      simpa using hc
    have hml := right_le hmv.1 hm
    have hV : Hid (noteV m v x = (smoothV m X 4620693217682128896, smoothV v (apartV X m) 4616189618054758400)) := by unfold Hid noteV; rw [if_neg (by rw [nm]; decide), hX]
    rw [nm] at hkn
    have Hkn := Lib.hid hkn
    -- rules for NaNs
    have gq4 := fun w w' a b => run_float_nan (P := Try.prog) w .quo 22 (nanOf w' a b) 4616189618054758400 (by simp) (div_nan (.inl (nan_rg _ _ _)))
    have gq8 := fun w w' a b => run_float_nan (P := Try.prog) w .quo 22 (nanOf w' a b) 4620693217682128896 (by simp) (div_nan (.inl (nan_rg _ _ _)))
    have gav := fun w w' a b => run_float_nan (P := Try.prog) w .add 22 v (nanOf w' a b) (by simp) (add_nan (.inr (nan_rg _ _ _)))
    have gam := fun w w' a b => run_float_nan (P := Try.prog) w .add 22 m (nanOf w' a b) (by simp) (add_nan (.inr (nan_rg _ _ _)))
    have gh := held_nan
    have gne : ∀ w a b, (FloatKind.f64.format.order (nanOf w a b) (nanOf w a b) != some Ordering.eq) = true := fun w a b => by rw [cmp_ne_self]; exact (nanOf_nan w a b).1
    have ggt : ∀ w a b w' c d, (FloatKind.f64.format.order (nanOf w a b) (nanOf w' c d) == some Ordering.gt) = false := fun w a b w' c d => by rw [cmp_gt, (nanOf_nan w a b).1]; rfl
    -- the answer's distance, and what the last sums are
    obtain ⟨dd, hdd⟩ : ∃ dd, apartV X m = dd := ⟨_, rfl⟩
    have hv4 : (Ieee.double.sub dd v = none ∧ smoothV v dd 4616189618054758400 = 9218868437227405312) ∨ ∃ (s t : Nat) (f : World → Nat) (k : Nat), Ieee.double.sub dd v = some s ∧ Ieee.double.div s 4616189618054758400 = some t ∧
        (∀ w, (binOp .add 22 (.float .f64 v) (.float .f64 t)).run Try.prog w = .ok (.float .f64 (f w)) (w.drewN k)) ∧ ∀ w, heldV (f w) = smoothV v dd 4616189618054758400 := by
      cases h : Ieee.double.sub dd v with
      | none => exact .inl ⟨rfl, smooth_none h⟩
      | some s =>
        obtain ⟨ns, ls⟩ := sub_ok h
        obtain ⟨t, h2, _, _⟩ := div_ok (y := 4616189618054758400) ns (by decide) (by decide)
        obtain ⟨f, k, h3, h4⟩ := smooth_abs h h2
        exact .inr ⟨s, t, f, k, rfl, h2, h3, h4⟩
    rw [hdd] at hV
    rcases sub_both hrX hml with ⟨h1, h2, h3⟩ | ⟨p, q, h1, h2, np, nq, lp, lq, h3, h4⟩
    · -- two infinities
      have e0 : dd = 0 := hdd.symm.trans h3
      subst e0
      rw [smooth_none h1] at hV
      have r1 := fun w => run_float_nan (P := Try.prog) w .sub 22 X m (by simp) h1
      have r2 := fun w => run_float_nan (P := Try.prog) w .sub 22 m X (by simp) h2
      clear h1 h2 h3 hdd
      rcases hv4 with ⟨h1, h2⟩ | ⟨s, t, f, k, h1, h2, h3, h4⟩
      case' inl =>
        have r3 := fun w => run_float_nan (P := Try.prog) w .sub 22 0 v (by simp) h1
        obtain ⟨S2, hS2⟩ : ∃ S2, smoothV v 0 4616189618054758400 = S2 := ⟨_, rfl⟩
        rw [hS2] at h2 hV
        subst h2
      case' inr =>
        have r3 := fun w => run_float_arith (P := Try.prog) w .sub 22 .f64 0 v s h1
        have r4 := fun w => run_float_arith (P := Try.prog) w .quo 22 .f64 s 4616189618054758400 t h2
        obtain ⟨S2, hS2⟩ : ∃ S2, smoothV v 0 4616189618054758400 = S2 := ⟨_, rfl⟩
        rw [hS2] at h4 hV
        clear h1 h2
      all_goals
        rw [hV.out] at HP
        clear hS2 hkn hmv hml hX hH0 hH1 hr hc hn hrX
      all_goals by_cases hz : rk x = 0
      all_goals first
        | (rw [decide_eq_true (show rk x = rk 0 by rw [rk_zero]; exact hz)] at heq
           have HX := Lib.hid (HX0.out hz))
        | (rw [decide_eq_false (show ¬ rk x = rk 0 by rw [rk_zero]; exact hz)] at heq
           have HX := Lib.hid (HX1.out hz))
      all_goals
        clear hz hge HX0 HX1
        go_enter Try.func30, Try.ntmps30
        go_wp2_with fail
        refine (Hck.out _).mono ?_
        rintro e w1 ⟨rfl, hb1⟩
        have h0 : w1.heap[w.heap.size + 1]? = some (.cells #[.float .f64 0, .float .f64 0] 24 (0, 0)) := by
          rw [hb1.block _ (by simp)]
          exact heap_alloc2_new w _ _
        have h1 : w1.heap[w.heap.size]? = some (.cells #[.float .f64 m, .float .f64 v] 24 (0, 0)) := by
          rw [hb1.block _ (by simp; omega)]
          exact heap_alloc2_old w _ _
        have hz1 : w.heap.size + 2 ≤ w1.heap.size := by have := hb1.size; simp at this; omega
        have hbw1 : Below w.heap.size w w1 := ((((Below.refl _ _).alloc (Nat.le_refl _) _).alloc (by simp) _).trans (hb1.mono (by simp; omega)))
        have c0 : w1.cell? ⟨w.heap.size, 0, none⟩ = some (.float .f64 m) := cell_of_row _ _ _ _ _ _ h1
        have c1 : w1.cell? ⟨w.heap.size, 1, none⟩ = some (.float .f64 v) := cell_of_row _ _ _ _ _ _ h1
        have H0 := Lib.hid h0
        have H1 := Lib.hid h1
        clear h0 h1 hb1
        go_wp2_with (go_at_call 55; refine (HX.out _).mono ?_; rintro e w2 ⟨rfl, rfl⟩)
        refine (Hkn.out _).mono ?_
        rintro e w2 ⟨rfl, hb2⟩
        have H2 : Hid (w2.heap[w.heap.size + 1]? = some (.cells #[.float .f64 0, .float .f64 0] 24 (0, 0))) := (hb2.block _ (by omega)).trans H0.out
        have H3 : Hid (w2.heap[w.heap.size]? = some (.cells #[.float .f64 m, .float .f64 v] 24 (0, 0))) := (hb2.block _ (by omega)).trans H1.out
        have hbw2 := hbw1.trans (hb2.mono (show w.heap.size ≤ _ by omega))
        clear c0 c1 hb2
        have Hc0 : Hid (∀ k, (w2.drewN k).cell? ⟨w.heap.size, 0, none⟩ = some (.float .f64 m)) := fun k => cell_of_row _ _ _ _ _ _ H3.out
        have c0 : w2.cell? ⟨w.heap.size, 0, none⟩ = some (.float .f64 m) := Hc0.out 0
        have c1 : w2.cell? ⟨w.heap.size, 1, none⟩ = some (.float .f64 v) := cell_of_row _ _ _ _ _ _ H3.out
        go_wp2_with fail
        have z0 : w2.cell? ⟨w.heap.size + 1, 0, none⟩ = some (.float .f64 0) := cell_of_row _ _ _ _ _ _ H2.out
        have z1 : w2.cell? ⟨w.heap.size + 1, 1, none⟩ = some (.float .f64 0) := cell_of_row _ _ _ _ _ _ H2.out
        have f0 : w2.frozen? ⟨w.heap.size + 1, 0, none⟩ = false := frozen_of_row _ _ _ _ _ H2.out
        have f1 : w2.frozen? ⟨w.heap.size + 1, 1, none⟩ = false := frozen_of_row _ _ _ _ _ H2.out
        have Hrow : Hid (∀ a b, ((w2.setCell ⟨w.heap.size + 1, 0, none⟩ (.float .f64 a)).setCell ⟨w.heap.size + 1, 1, none⟩ (.float .f64 b)).heap[w.heap.size + 1]? = some (.cells #[.float .f64 a, .float .f64 b] 24 (0, 0))) := fun a b => by
          rw [heap_setCell_same _ _ _ _ _ _ (heap_setCell_same _ _ _ _ _ _ H2.out)]
          rfl
        go_region_with (fail)
      all_goals
        go_wp2_with (go_at_call 55; refine (held_any _ _).mono ?_; rintro e w3 ⟨rfl, rfl⟩)
      all_goals first
        | (refine bodyPost_ret (v := .tuple #[.agg #[.float .f64 9218868437227405312, .float .f64 S2], .int .i64 0]) (results_rtt2 rfl _ _ (w.heap.size + 1) 9218868437227405312 S2 0 rfl rfl (Hrow.out _ _)) rfl (HP.out _ ?_)
           repeat (refine Below.drew ?_)
           first
             | exact (hbw2.setCell (by show w.heap.size ≤ w.heap.size + 1; omega) _).setCell (by show w.heap.size ≤ w.heap.size + 1; omega) _
             | exact below_drewN ((hbw2.setCell (by show w.heap.size ≤ w.heap.size + 1; omega) _).setCell (by show w.heap.size ≤ w.heap.size + 1; omega) _) _)
        | (refine bodyPost_ret (v := .tuple #[.agg #[.float .f64 9218868437227405312, .float .f64 9218868437227405312], .int .i64 0]) (results_rtt2 rfl _ _ (w.heap.size + 1) 9218868437227405312 9218868437227405312 0 rfl rfl (Hrow.out _ _)) rfl (HP.out _ ?_)
           repeat (refine Below.drew ?_)
           exact (hbw2.setCell (by show w.heap.size ≤ w.heap.size + 1; omega) _).setCell (by show w.heap.size ≤ w.heap.size + 1; omega) _)
    · -- two numbers
      obtain ⟨t8, d8, _, _⟩ := div_ok (y := 4620693217682128896) np (by decide) (by decide)
      obtain ⟨f8, k8, g8, h8⟩ := smooth_abs h1 d8
      obtain ⟨S1, hS1⟩ : ∃ S1, smoothV m X 4620693217682128896 = S1 := ⟨_, rfl⟩
      obtain ⟨S2, hS2⟩ : ∃ S2, smoothV v dd 4616189618054758400 = S2 := ⟨_, rfl⟩
      rw [hS1] at hV h8
      rw [hS2] at hV hv4
      have r1 := fun w => run_float_arith (P := Try.prog) w .sub 22 .f64 X m p h1
      have r2 := fun w => run_float_arith (P := Try.prog) w .sub 22 .f64 m X q h2
      have r5 := fun w => run_float_arith (P := Try.prog) w .quo 22 .f64 p 4620693217682128896 t8 d8
      have egt := cmp_gt q p
      have enp := cmp_ne_self p
      have enq := cmp_ne_self q
      rw [np, nq] at egt
      rw [np] at enp
      rw [nq] at enq
      simp only [Bool.not_false, Bool.true_and] at egt
      rw [h3, maxW_rk np nq h4] at hdd
      clear h1 h2 h3 h4 gq8 gam d8
      rcases Decidable.em (rk p < rk q) with hpq | hpq
      case' inl =>
        rw [if_pos hpq] at hdd
        rw [decide_eq_true hpq] at egt
      case' inr =>
        rw [if_neg hpq] at hdd
        rw [decide_eq_false hpq] at egt
      all_goals
        clear hpq
        subst hdd
        rcases hv4 with ⟨h1, h2⟩ | ⟨s, t, f, k, h1, h2, h3, h4⟩
      all_goals first
        | (have r4 := fun w => run_float_arith (P := Try.prog) w .quo 22 .f64 s 4616189618054758400 t h2
           have r3 := fun w => run_float_arith (P := Try.prog) w .sub 22 .f64 _ v s h1
           clear h1 h2)
        | (have r3 := fun w => run_float_nan (P := Try.prog) w .sub 22 _ v (by simp) h1
           rw [h2] at hV
           clear h1)
      all_goals
        rw [hV.out] at HP
        clear hS1 hS2 hkn hmv hml hX hH0 hH1 hr hc hn hrX
      all_goals by_cases hz : rk x = 0
      all_goals first
        | (rw [decide_eq_true (show rk x = rk 0 by rw [rk_zero]; exact hz)] at heq
           have HX := Lib.hid (HX0.out hz))
        | (rw [decide_eq_false (show ¬ rk x = rk 0 by rw [rk_zero]; exact hz)] at heq
           have HX := Lib.hid (HX1.out hz))
      all_goals
        clear hz hge HX0 HX1
        go_enter Try.func30, Try.ntmps30
        go_wp2_with fail
        refine (Hck.out _).mono ?_
        rintro e w1 ⟨rfl, hb1⟩
        have h0 : w1.heap[w.heap.size + 1]? = some (.cells #[.float .f64 0, .float .f64 0] 24 (0, 0)) := by
          rw [hb1.block _ (by simp)]
          exact heap_alloc2_new w _ _
        have h1 : w1.heap[w.heap.size]? = some (.cells #[.float .f64 m, .float .f64 v] 24 (0, 0)) := by
          rw [hb1.block _ (by simp; omega)]
          exact heap_alloc2_old w _ _
        have hz1 : w.heap.size + 2 ≤ w1.heap.size := by have := hb1.size; simp at this; omega
        have hbw1 : Below w.heap.size w w1 := ((((Below.refl _ _).alloc (Nat.le_refl _) _).alloc (by simp) _).trans (hb1.mono (by simp; omega)))
        have c0 : w1.cell? ⟨w.heap.size, 0, none⟩ = some (.float .f64 m) := cell_of_row _ _ _ _ _ _ h1
        have c1 : w1.cell? ⟨w.heap.size, 1, none⟩ = some (.float .f64 v) := cell_of_row _ _ _ _ _ _ h1
        have H0 := Lib.hid h0
        have H1 := Lib.hid h1
        clear h0 h1 hb1
        go_wp2_with (go_at_call 55; refine (HX.out _).mono ?_; rintro e w2 ⟨rfl, rfl⟩)
        refine (Hkn.out _).mono ?_
        rintro e w2 ⟨rfl, hb2⟩
        have H2 : Hid (w2.heap[w.heap.size + 1]? = some (.cells #[.float .f64 0, .float .f64 0] 24 (0, 0))) := (hb2.block _ (by omega)).trans H0.out
        have H3 : Hid (w2.heap[w.heap.size]? = some (.cells #[.float .f64 m, .float .f64 v] 24 (0, 0))) := (hb2.block _ (by omega)).trans H1.out
        have hbw2 := hbw1.trans (hb2.mono (show w.heap.size ≤ _ by omega))
        clear c0 c1 hb2
        have Hc0 : Hid (∀ k, (w2.drewN k).cell? ⟨w.heap.size, 0, none⟩ = some (.float .f64 m)) := fun k => cell_of_row _ _ _ _ _ _ H3.out
        have c0 : w2.cell? ⟨w.heap.size, 0, none⟩ = some (.float .f64 m) := Hc0.out 0
        have c1 : w2.cell? ⟨w.heap.size, 1, none⟩ = some (.float .f64 v) := cell_of_row _ _ _ _ _ _ H3.out
        go_wp2_with fail
        have z0 : w2.cell? ⟨w.heap.size + 1, 0, none⟩ = some (.float .f64 0) := cell_of_row _ _ _ _ _ _ H2.out
        have z1 : w2.cell? ⟨w.heap.size + 1, 1, none⟩ = some (.float .f64 0) := cell_of_row _ _ _ _ _ _ H2.out
        have f0 : w2.frozen? ⟨w.heap.size + 1, 0, none⟩ = false := frozen_of_row _ _ _ _ _ H2.out
        have f1 : w2.frozen? ⟨w.heap.size + 1, 1, none⟩ = false := frozen_of_row _ _ _ _ _ H2.out
        have Hrow : Hid (∀ a b, ((w2.setCell ⟨w.heap.size + 1, 0, none⟩ (.float .f64 a)).setCell ⟨w.heap.size + 1, 1, none⟩ (.float .f64 b)).heap[w.heap.size + 1]? = some (.cells #[.float .f64 a, .float .f64 b] 24 (0, 0))) := fun a b => by
          rw [heap_setCell_same _ _ _ _ _ _ (heap_setCell_same _ _ _ _ _ _ H2.out)]
          rfl
        go_quiet (fail)
      all_goals
        go_wp2_with (go_at_call 55; refine (held_any _ _).mono ?_; rintro e w3 ⟨rfl, rfl⟩)
      all_goals first
        | (refine bodyPost_ret (v := .tuple #[.agg #[.float .f64 S1, .float .f64 S2], .int .i64 0]) (results_rtt2 rfl _ _ (w.heap.size + 1) S1 S2 0 rfl rfl (Hrow.out _ _)) rfl (HP.out _ ?_)
           repeat (refine Below.drew ?_)
           first
             | exact (hbw2.setCell (by show w.heap.size ≤ w.heap.size + 1; omega) _).setCell (by show w.heap.size ≤ w.heap.size + 1; omega) _
             | exact ((below_drewN hbw2 _).setCell (by show w.heap.size ≤ w.heap.size + 1; omega) _).setCell (by show w.heap.size ≤ w.heap.size + 1; omega) _
             | exact below_drewN ((hbw2.setCell (by show w.heap.size ≤ w.heap.size + 1; omega) _).setCell (by show w.heap.size ≤ w.heap.size + 1; omega) _) _)
        | (refine bodyPost_ret (v := .tuple #[.agg #[.float .f64 S1, .float .f64 9218868437227405312], .int .i64 0]) (results_rtt2 rfl _ _ (w.heap.size + 1) S1 9218868437227405312 0 rfl rfl (Hrow.out _ _)) rfl (HP.out _ ?_)
           repeat (refine Below.drew ?_)
           first
             | exact (hbw2.setCell (by show w.heap.size ≤ w.heap.size + 1; omega) _).setCell (by show w.heap.size ≤ w.heap.size + 1; omega) _
             | exact ((below_drewN hbw2 _).setCell (by show w.heap.size ≤ w.heap.size + 1; omega) _).setCell (by show w.heap.size ≤ w.heap.size + 1; omega) _
             | exact below_drewN ((hbw2.setCell (by show w.heap.size ≤ w.heap.size + 1; omega) _).setCell (by show w.heap.size ≤ w.heap.size + 1; omega) _) _)
theorem RefNote_any (m v x : Nat) (w : World) (hm : m < 18446744073709551616) (hv : v < 18446744073709551616) (hx : x < 18446744073709551616) :
    Calls Try.prog 30 #[.agg #[.float .f64 m, .float .f64 v], .float .f64 x] w (NotePost m v x w) := by
  cases hn : noteB m v x
  · exact RefNote_no m v x w hm hv hn
  · exact RefNote_yes m v x w hm hv hx hn
end Go.Proofs.Ytebfaghgcecacaa
