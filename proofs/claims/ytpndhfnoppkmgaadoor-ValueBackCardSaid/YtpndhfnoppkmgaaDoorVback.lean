/-
  The walk of ValueBack.
-/
import Derived.Test.YtpndhfnoppkmgaaDoorVreads
namespace Go.Proofs.YtpndhfnoppkmgaaDoor
open Go.RowKit
set_option maxRecDepth 100000
set_option maxHeartbeats 3200000 in
theorem back_main (k1 : Int) (x1 : Nat) (s1 : ByteArray) (k2 : Int) (x2 : Nat) (s2 : ByteArray) (T U : ByteArray) (n : Int) (sv : Bool) (W : World) (hn : n = 0 ∨ n = 8 ∨ n = 2 ∨ n = 15)
    (HA : Hid (∀ w, Calls Tryd.prog 8 #[.agg #[.int .i64 k1, .float .f64 x1, .string s1]] w fun e w' => e = .returned (.bool false) ∧ Below w.heap.size w w'))
    (HB : Hid (∀ w, Calls Tryd.prog 8 #[.agg #[.int .i64 k2, .float .f64 x2, .string s2]] w fun e w' => e = .returned (.bool false) ∧ Below w.heap.size w w'))
    (HC : Hid (∀ w, Calls Tryd.prog 12 #[.agg #[.int .i64 k1, .float .f64 x1, .string s1]] w fun e w' => e = .returned (.int .i64 0) ∧ Below w.heap.size w w'))
    (HT : Hid (∀ w, Below W.heap.size W w → Calls Tryd.prog 20 #[.agg #[.int .i64 k1, .float .f64 x1, .string s1]] w fun e w' => e = .returned (.tuple #[.string T, .int .i64 0]) ∧ Below w.heap.size w w'))
    (HP : Hid (∀ w, Below W.heap.size W w → Calls Tryd.prog 22 #[.string T] w fun e w' => e = .returned (.tuple #[.agg #[.int .i64 k1, .float .f64 x1, .string s1], .int .i64 0]) ∧ Below w.heap.size w w'))
    (HS : Hid (∀ w, Calls Tryd.prog 10 #[.agg #[.int .i64 k1, .float .f64 x1, .string s1], .agg #[.int .i64 k1, .float .f64 x1, .string s1]] w fun e w' => e = .returned (.bool true) ∧ Below w.heap.size w w'))
    (HU : Hid (∀ w, Below W.heap.size W w → Calls Tryd.prog 20 #[.agg #[.int .i64 k2, .float .f64 x2, .string s2]] w fun e w' => e = .returned (.tuple #[.string U, .int .i64 n]) ∧ Below w.heap.size w w'))
    (HV : Hid (∀ w, Calls Tryd.prog 10 #[.agg #[.int .i64 k1, .float .f64 x1, .string s1], .agg #[.int .i64 k2, .float .f64 x2, .string s2]] w fun e w' => e = .returned (.bool sv) ∧ Below w.heap.size w w'))
    (hsv : n = 0 → (T.toList == U.toList) = sv) :
    Calls Tryd.prog 7 #[.agg #[.int .i64 k1, .float .f64 x1, .string s1], .agg #[.int .i64 k2, .float .f64 x2, .string s2]] W fun e w' => e = .returned (.bool true) ∧ Below W.heap.size W w' := by
  have hst := run_store_float
  obtain ⟨W2, hW2⟩ : ∃ W2, (W.alloc (.cells #[.int .i64 k1, .float .f64 x1, .string s1] 24)).alloc (.cells #[.int .i64 k2, .float .f64 x2, .string s2] 24) = W2 := ⟨_, rfl⟩
  have hb2 : Below W.heap.size W W2 := by rw [← hW2]; exact two_below _ _ _
  have hz2 : W2.heap.size = W.heap.size + 2 := by rw [← hW2]; simp
  have Hrow : Hid (∀ w' : World, Below W2.heap.size W2 w' → w'.cell? ⟨W.heap.size, 0, none⟩ = some (.int .i64 k1) ∧ w'.cell? ⟨W.heap.size, 1, none⟩ = some (.float .f64 x1) ∧ w'.cell? ⟨W.heap.size, 2, none⟩ = some (.string s1) ∧
      w'.cell? ⟨W.heap.size + 1, 0, none⟩ = some (.int .i64 k2) ∧ w'.cell? ⟨W.heap.size + 1, 1, none⟩ = some (.float .f64 x2) ∧ w'.cell? ⟨W.heap.size + 1, 2, none⟩ = some (.string s2)) := fun w' hb => by
    have h1 : w'.heap[W.heap.size]? = some (.cells #[.int .i64 k1, .float .f64 x1, .string s1] 24 (0, 0)) := by
      rw [hb.block _ (by omega), ← hW2, Below.heap_alloc _ _ _ (by simp)]
      exact heap_alloc_new W _
    have h2 : w'.heap[W.heap.size + 1]? = some (.cells #[.int .i64 k2, .float .f64 x2, .string s2] 24 (0, 0)) := by
      rw [hb.block _ (by omega), ← hW2]
      exact heap_alloc2_new W _ _
    exact ⟨cell_of_row _ _ _ _ _ _ h1, cell_of_row _ _ _ _ _ _ h1, cell_of_row _ _ _ _ _ _ h1, cell_of_row _ _ _ _ _ _ h2, cell_of_row _ _ _ _ _ _ h2, cell_of_row _ _ _ _ _ _ h2⟩
  have HW2 := Lib.hid hW2
  clear hW2
  have hbq : Below W2.heap.size W2 W2 := Below.refl _ _
  obtain ⟨y0, y1, y2, y3, y4, y5⟩ := Hrow.out _ hbq
  have HLIT := Lib.hid hsv
  clear hsv
  go_enter Tryd.func7, Tryd.ntmps7
  go_wp2_with fail
  rw [HW2.out]
  go_wp2_with (first
    | (go_at_call 8; (with_reducible refine (HA.out _).mono ?_); rintro e w2 ⟨rfl, hb2'⟩; (have hbn : Below W2.heap.size W2 w2 := hbq.trans (hb2'.mono hbq.size)); clear hbq hb2' y0 y1 y2 y3 y4 y5; have hbq := hbn; clear hbn; obtain ⟨y0, y1, y2, y3, y4, y5⟩ := Hrow.out _ (hbq))
    | (go_at_call 8; (with_reducible refine (HB.out _).mono ?_); rintro e w2 ⟨rfl, hb2'⟩; (have hbn : Below W2.heap.size W2 w2 := hbq.trans (hb2'.mono hbq.size)); clear hbq hb2' y0 y1 y2 y3 y4 y5; have hbq := hbn; clear hbn; obtain ⟨y0, y1, y2, y3, y4, y5⟩ := Hrow.out _ (hbq))
    | (go_at_call 12; (with_reducible refine (HC.out _).mono ?_); rintro e w2 ⟨rfl, hb2'⟩; (have hbn : Below W2.heap.size W2 w2 := hbq.trans (hb2'.mono hbq.size)); clear hbq hb2' y0 y1 y2 y3 y4 y5; have hbq := hbn; clear hbn; obtain ⟨y0, y1, y2, y3, y4, y5⟩ := Hrow.out _ (hbq)))
  have hbr := hb2.trans (hbq.mono (by omega))
  refine (HT.out _ hbr).mono ?_
  rintro e w3 ⟨rfl, hb3⟩
  have hbr3 := hbr.trans (hb3.mono hbr.size)
  have hbq3 : Below W2.heap.size W2 w3 := hbq.trans (hb3.mono hbq.size)
  clear y0 y1 y2 y3 y4 y5 hbr hb3 hbq
  go_wp2_with fail
  refine (HP.out _ hbr3).mono ?_
  rintro e w4 ⟨rfl, hb4⟩
  have hbr4 := hbr3.trans (hb4.mono hbr3.size)
  have hbq4 : Below W2.heap.size W2 w4 := hbq3.trans (hb4.mono hbq3.size)
  clear hbr3 hbq3 hb4
  obtain ⟨y0, y1, y2, y3, y4, y5⟩ := Hrow.out _ hbq4
  have hn0 : W.heap.size < w4.heap.size := by have := hbq4.size; omega
  have hn1 : W.heap.size + 1 < w4.heap.size := by have := hbq4.size; omega
  go_wp2_with fail
  refine (HS.out _).mono ?_
  rintro e w5 ⟨rfl, hb5⟩
  have hbr5 := (hbr4.alloc hbr4.size _).trans (hb5.mono (by simp; have := hbr4.size; omega))
  have hbq5 : Below W2.heap.size W2 w5 := (hbq4.alloc hbq4.size _).trans (hb5.mono (by simp; have := hbq4.size; omega))
  clear y0 y1 y2 y3 y4 y5 hbr4 hbq4 hb5
  obtain ⟨y0, y1, y2, y3, y4, y5⟩ := Hrow.out _ hbq5
  go_wp2_with fail
  refine (HU.out _ hbr5).mono ?_
  rintro e w6 ⟨rfl, hb6⟩
  have hbr6 := hbr5.trans (hb6.mono hbr5.size)
  have hbq6 : Below W2.heap.size W2 w6 := hbq5.trans (hb6.mono hbq5.size)
  clear y0 y1 y2 y3 y4 y5 hbr5 hbq5 hb6
  obtain ⟨y0, y1, y2, y3, y4, y5⟩ := Hrow.out _ hbq6
  rcases hn with rfl | rfl | rfl | rfl
  · have hq := HLIT.out rfl
    clear HLIT
    go_wp2_with fail
    refine (HV.out _).mono ?_
    rintro e w7 ⟨rfl, hb7⟩
    have hbr7 := hbr6.trans (hb7.mono hbr6.size)
    clear y0 y1 y2 y3 y4 y5 hbr6 hbq6 hb7
    subst hq
    go_wp2_with fail
    refine (vwakes_any _).mono ?_
    rintro e w8 ⟨rfl, hb8⟩
    go_wp2_with fail
    go_ret
    exact ⟨rfl, hbr7.trans (hb8.mono hbr7.size)⟩
  all_goals
    clear HLIT
    go_wp2_with fail
    refine (vwakes_any _).mono ?_
    rintro e w8 ⟨rfl, hb8⟩
    go_wp2_with fail
    go_ret
    exact ⟨rfl, hbr6.trans (hb8.mono hbr6.size)⟩
end Go.Proofs.YtpndhfnoppkmgaaDoor
