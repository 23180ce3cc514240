/-
  The walk of num.Mean: sums of any floats, of any NaN the NaN.
-/
import Derived.Test.YtkckncggiicciaaDoorNumb
import Derived.Deep.LoopGhost
namespace Go.Proofs.YtkckncggiicciaaDoor
open Go.RowKit
/-- All, added up from the left, of any NaN the NaN. -/
def sumC (l : List Nat) : Nat := l.foldl addV 0
theorem sumC_snoc (l : List Nat) (x : Nat) : sumC (l ++ [x]) = addV (sumC l) x := by simp [sumC]
theorem canon_canon (x : Nat) : canon (canon x) = canon x := by
  unfold canon
  cases h : isNan x
  · simp [h]
  · simp [nan_nan]
theorem addV_num {a b r : Nat} (h : Ieee.double.add a b = some r) : addV a b = r := by unfold addV; rw [h]
theorem addV_none {a b : Nat} (h : Ieee.double.add a b = none) : addV a b = 9221120237041090561 := by unfold addV; rw [h]
theorem isNan_canon (x : Nat) : isNan (canon x) = isNan x := by
  unfold canon
  cases h : isNan x
  · simpa using h
  · simp [nan_nan]
theorem addV_canon (s x : Nat) : addV (canon s) x = addV s x := by
  cases h : isNan s
  · rw [canon_num h]
  · rw [canon_nan h, addV_none (add_nan (.inl (isNan_true nan_nan))), addV_none (add_nan (.inl (isNan_true h)))]
theorem canon_addV (a b : Nat) : canon (addV a b) = addV a b := by
  cases h : Ieee.double.add a b with
  | none => rw [addV_none h]; decide
  | some r => rw [addV_num h, canon_num (add_ok h).1]
/-- One step of a sum. -/
theorem add_step (s c x : Nat) (hs : canon s = c) : ∃ (r : World → Nat) (k : Nat), (∀ w, (binOp .add 35 (.float .f64 s) (.float .f64 x)).run Tryd.prog w = .ok (.float .f64 (r w)) (w.drewN k)) ∧ ∀ w, canon (r w) = addV c x ∧ r w < 18446744073709551616 := by
  subst hs
  rw [addV_canon]
  cases h : Ieee.double.add s x with
  | none =>
    refine ⟨fun w => nanOf w s x, 1, fun w => run_float_nan (P := Tryd.prog) w .add 35 s x (by simp) h, fun w => ⟨?_, (nanOf_nan w s x).2⟩⟩
    rw [canon_nan (nanOf_nan w s x).1, addV_none h]
  | some r =>
    refine ⟨fun _ => r, 0, fun w => run_float_arith (P := Tryd.prog) w .add 35 .f64 s x r h, fun w => ⟨?_, (add_ok h).2⟩⟩
    rw [canon_num (add_ok h).1, addV_num h]
/-- A quotient, of any NaN the NaN. -/
def divV (a b : Nat) : Nat := match Ieee.double.div a b with
  | none => 9221120237041090561
  | some r => r
/-- The float of a length. -/
theorem fi_len {n : Nat} (h0 : 0 < n) (h : n ≤ 9223372036854775807) : rg (fi n) < 9218868437227405312 ∧ 0 < rg (fi n) := by
  have h1 := fi_bd (n := n) (by omega)
  have h2 := fi_pos (n := n) (by omega)
  rw [(rg_small (x := fi n) (by omega)).1]
  omega
theorem div_step (s c n : Nat) (hs : canon s = c) (h0 : 0 < n) (h : n ≤ 9223372036854775807) : ∃ (r : World → Nat) (k : Nat), (∀ w, (binOp .quo 35 (.float .f64 s) (.float .f64 (fi n))).run Tryd.prog w = .ok (.float .f64 (r w)) (w.drewN k)) ∧ ∀ w, canon (r w) = divV c (fi n) ∧ r w < 18446744073709551616 := by
  obtain ⟨f1, f2⟩ := fi_len h0 h
  subst hs
  cases hn : isNan s
  · rw [canon_num hn]
    obtain ⟨r, h1, h2, h3⟩ := div_ok (y := fi n) hn f1 f2
    refine ⟨fun _ => r, 0, fun w => run_float_arith (P := Tryd.prog) w .quo 35 .f64 s (fi n) r h1, fun w => ⟨?_, h3⟩⟩
    rw [canon_num h2]
    unfold divV
    rw [h1]
  · have hd := div_nan (y := fi n) (.inl (isNan_true hn))
    refine ⟨fun w => nanOf w s (fi n), 1, fun w => run_float_nan (P := Tryd.prog) w .quo 35 s (fi n) (by simp) hd, fun w => ⟨?_, (nanOf_nan w s (fi n)).2⟩⟩
    rw [canon_nan (nanOf_nan w s (fi n)).1, canon_nan hn]
    unfold divV
    rw [div_nan (.inl (isNan_true nan_nan))]
/-- The mean. -/
def meanV (l : List Nat) : Nat := if l.length = 0 then 9221120237041090561 else divV (sumC l) (fi l.length)
theorem floats_at {w : World} {B n cap : Nat} {A : Option Addr} {l : List Nat} (h : Rd w B 1 A n cap (l.map (Value.float .f64))) {k : Nat} (hk : k < n) :
    ∃ b off x, A = some ⟨b, off, none⟩ ∧ b < B ∧ w.cell? ⟨b, off + k, none⟩ = some (.float .f64 x) ∧ Hid (l[k]? = some x ∧ l.take (k + 1) = l.take k ++ [x]) := by
  obtain ⟨h1, h2, h3, h4⟩ := h
  rw [List.length_map, Nat.mul_one] at h1
  obtain ⟨b, off, e, hb, hc⟩ := h4 (by omega)
  have hl : l[k]? = some (l[k]'(by omega)) := by simp
  exact ⟨b, off, l[k]'(by omega), e, hb, hc k _ (by rw [List.getElem?_map, hl]; rfl), hl, List.take_succ_eq_append_getElem (by omega)⟩
set_option maxHeartbeats 3200000 in
theorem Mean_any (A : Option Addr) (n cap B : Nat) (l : List Nat) (w : World) (hy : Rd w B 1 A n cap (l.map (Value.float .f64))) :
    Calls Tryd.prog 29 #[.slice A n cap] w (Qt w (.float .f64 (meanV l))) := by
  have hlen : l.length = n := by simpa using hy.1
  have hmax : n ≤ 9223372036854775807 := by
    have := hy.2.1
    have := hy.2.2.1
    unfold maxLen at this
    omega
  unfold meanV
  by_cases h0 : n = 0
  · rw [if_pos (by omega)]
    subst h0
    clear hlen
    go_enter Tryd.func29, Tryd.ntmps29
    go_wp2_with (refine (numnan_any _).mono ?_; rintro e w1 ⟨rfl, rfl⟩)
    go_ret
    exact ⟨rfl, 0, rfl⟩
  · rw [if_neg (by omega), hlen]
    have h0' : 0 < n := by omega
    have hz : ((n : Int) == 0) = false := by simp; omega
    clear h0
    have Hlen := Lib.hid hlen
    clear hlen
    go_enter Tryd.func29, Tryd.ntmps29
    go_wp2_with fail
    go_loopg [3, 12] n (fun g s3 s12 wr => ∃ (i s : Nat), i + g = n ∧ s12 = .int .i64 i ∧ s3 = .float .f64 s ∧ canon s = sumC (l.take i) ∧ ∃ d, wr = w.drewN d)
    case atStart => exact ⟨0, 0, by omega, rfl, rfl, (show canon 0 = 0 by decide), 0, rfl⟩
    case round =>
      obtain ⟨i, s, hig, rfl, rfl, hs, d, rfl⟩ := hrel
      have hin : i ≤ n := by omega
      have Hig := Lib.hid hig
      have Hs := Lib.hid hs
      clear hig hs
      by_cases hlt : i < n
      · obtain ⟨b, off, x, rfl, hb, hc, Hst⟩ := floats_at hy hlt
        obtain ⟨r, k, hr, hr2⟩ := add_step s _ x Hs.out
        have Hr2 := Lib.hid hr2
        clear hr2
        go_wp2_with fail
        go_roundg (gk - 1)
        case rel =>
          refine ⟨i + 1, _, by have := Hig.out; omega, by go_num, rfl, ?_, d + k, rfl⟩
          rw [Hst.out.2, sumC_snoc]
          exact (Hr2.out _).1
        case measure => have := Hig.out; omega
      · obtain rfl : i = n := by omega
        have Hs2 : Hid (canon s = sumC l) := by
          have := Hs.out
          rwa [List.take_of_length_le (by rw [Hlen.out]; exact Nat.le_refl _)] at this
        obtain ⟨r, k, hr, hr2⟩ := div_step s _ i Hs2.out h0' hmax
        have hfi := fi_eq i
        have HC : Hid (∀ w w', Calls Tryd.prog 60 #[.float .f64 (r w')] w fun e w' => e = .returned (.float .f64 (divV (sumC l) (fi i))) ∧ w = w') := fun w w' => by
          have := Canon_any (r w') w
          rw [(hr2 w').1] at this
          exact this
        clear hr2
        go_wp2_with (refine (HC.out _ _).mono ?_; rintro e w1 ⟨rfl, rfl⟩)
        go_ret
        exact ⟨rfl, d + k, rfl⟩
set_option maxHeartbeats 3200000 in
theorem RefMean_any (A : Option Addr) (n cap B : Nat) (l : List Nat) (w : World) (hy : Rd w B 1 A n cap (l.map (Value.float .f64))) :
    Calls Tryd.prog 45 #[.slice A n cap] w (Qt w (.float .f64 (meanV l))) := by
  have hlen : l.length = n := by simpa using hy.1
  have hmax : n ≤ 9223372036854775807 := by
    have := hy.2.1
    have := hy.2.2.1
    unfold maxLen at this
    omega
  unfold meanV
  by_cases h0 : n = 0
  · rw [if_pos (by omega)]
    subst h0
    clear hlen
    go_enter Tryd.func45, Tryd.ntmps45
    go_wp2_with (refine (RefNaN_any _).mono ?_; rintro e w1 ⟨rfl, rfl⟩)
    go_ret
    exact ⟨rfl, 0, rfl⟩
  · rw [if_neg (by omega), hlen]
    have h0' : 0 < n := by omega
    have hz : ((n : Int) == 0) = false := by simp; omega
    clear h0
    have Hlen := Lib.hid hlen
    clear hlen
    go_enter Tryd.func45, Tryd.ntmps45
    go_wp2_with fail
    go_loopg [3, 4] n (fun g s3 s12 wr => ∃ (i s : Nat), i + g = n ∧ s12 = .int .i64 i ∧ s3 = .float .f64 s ∧ canon s = sumC (l.take i) ∧ ∃ d, wr = w.drewN d)
    case atStart => exact ⟨0, 0, by omega, rfl, rfl, (show canon 0 = 0 by decide), 0, rfl⟩
    case round =>
      obtain ⟨i, s, hig, rfl, rfl, hs, d, rfl⟩ := hrel
      have hin : i ≤ n := by omega
      have Hig := Lib.hid hig
      have Hs := Lib.hid hs
      clear hig hs
      by_cases hlt : i < n
      · obtain ⟨b, off, x, rfl, hb, hc, Hst⟩ := floats_at hy hlt
        obtain ⟨r, k, hr, hr2⟩ := add_step s _ x Hs.out
        have Hr2 := Lib.hid hr2
        clear hr2
        go_wp2_with fail
        go_roundg (gk - 1)
        case rel =>
          refine ⟨i + 1, _, by have := Hig.out; omega, by go_num, rfl, ?_, d + k, rfl⟩
          rw [Hst.out.2, sumC_snoc]
          exact (Hr2.out _).1
        case measure => have := Hig.out; omega
      · obtain rfl : i = n := by omega
        have Hs2 : Hid (canon s = sumC l) := by
          have := Hs.out
          rwa [List.take_of_length_le (by rw [Hlen.out]; exact Nat.le_refl _)] at this
        obtain ⟨r, k, hr, hr2⟩ := div_step s _ i Hs2.out h0' hmax
        have hfi := fi_eq i
        have HC : Hid (∀ w w', Calls Tryd.prog 70 #[.float .f64 (r w')] w fun e w' => e = .returned (.float .f64 (divV (sumC l) (fi i))) ∧ w = w') := fun w w' => by
          have := RefCanon_any (r w') w
          rw [(hr2 w').1] at this
          exact this
        clear hr2
        go_wp2_with (refine (HC.out _ _).mono ?_; rintro e w1 ⟨rfl, rfl⟩)
        go_ret
        exact ⟨rfl, d + k, rfl⟩
end Go.Proofs.YtkckncggiicciaaDoor
