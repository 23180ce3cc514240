/-
  The walk of ValueExact.
-/
import Derived.Test.YtpndhfnoppkmgaaDoorVrtext
import Derived.Test.YtpndhfnoppkmgaaDoorVjoins
namespace Go.Proofs.YtpndhfnoppkmgaaDoor
open Go.RowKit Go.Sort
set_option maxRecDepth 100000
set_option maxHeartbeats 6400000 in
theorem vexact_main (k1 : Int) (x1 : Nat) (s1 : ByteArray) (k2 : Int) (x2 : Nat) (s2 : ByteArray) (k3 : Int) (x3 : Nat) (s3 : ByteArray) (k4 : Int) (x4 : Nat) (s4 : ByteArray) (n m c : Int) (sv lv : Bool) (t : ByteArray) (W : World)
    (HA : Hid (∀ w, Calls Tryd.prog 8 #[.agg #[.int .i64 k1, .float .f64 x1, .string s1]] w fun e w' => e = .returned (.bool false) ∧ Below w.heap.size w w'))
    (HB : Hid (∀ w, Calls Tryd.prog 8 #[.agg #[.int .i64 k2, .float .f64 x2, .string s2]] w fun e w' => e = .returned (.bool false) ∧ Below w.heap.size w w'))
    (HK1 : Hid (∀ w, Calls Tryd.prog 12 #[.agg #[.int .i64 k1, .float .f64 x1, .string s1]] w fun e w' => e = .returned (.int .i64 c) ∧ Below w.heap.size w w'))
    (HK2 : Hid (∀ w, Calls Tryd.prog 15 #[.agg #[.int .i64 k1, .float .f64 x1, .string s1]] w fun e w' => e = .returned (.int .i64 c) ∧ Below w.heap.size w w'))
    (HS1 : Hid (∀ w, Calls Tryd.prog 10 #[.agg #[.int .i64 k1, .float .f64 x1, .string s1], .agg #[.int .i64 k2, .float .f64 x2, .string s2]] w fun e w' => e = .returned (.bool sv) ∧ Below w.heap.size w w'))
    (HS2 : Hid (∀ w, Calls Tryd.prog 16 #[.agg #[.int .i64 k1, .float .f64 x1, .string s1], .agg #[.int .i64 k2, .float .f64 x2, .string s2]] w fun e w' => e = .returned (.bool sv) ∧ Below w.heap.size w w'))
    (HL1 : Hid (∀ w, Calls Tryd.prog 9 #[.agg #[.int .i64 k1, .float .f64 x1, .string s1], .agg #[.int .i64 k2, .float .f64 x2, .string s2]] w fun e w' => e = .returned (.bool lv) ∧ Below w.heap.size w w'))
    (HL2 : Hid (∀ w, Calls Tryd.prog 17 #[.agg #[.int .i64 k1, .float .f64 x1, .string s1], .agg #[.int .i64 k2, .float .f64 x2, .string s2]] w fun e w' => e = .returned (.bool lv) ∧ Below w.heap.size w w'))
    (HADD : Hid (∀ w, Calls Tryd.prog 13 #[.agg #[.int .i64 k1, .float .f64 x1, .string s1], .agg #[.int .i64 k2, .float .f64 x2, .string s2]] w fun e w' => e = .returned (.tuple #[.agg #[.int .i64 k3, .float .f64 x3, .string s3], .int .i64 n]) ∧ Below w.heap.size w w'))
    (HADD2 : Hid (∀ w, Calls Tryd.prog 18 #[.agg #[.int .i64 k1, .float .f64 x1, .string s1], .agg #[.int .i64 k2, .float .f64 x2, .string s2]] w fun e w' => e = .returned (.tuple #[.agg #[.int .i64 k3, .float .f64 x3, .string s3], .int .i64 n]) ∧ Below w.heap.size w w'))
    (HMAX : Hid (∀ w, Calls Tryd.prog 14 #[.agg #[.int .i64 k1, .float .f64 x1, .string s1], .agg #[.int .i64 k2, .float .f64 x2, .string s2]] w fun e w' => e = .returned (.tuple #[.agg #[.int .i64 k4, .float .f64 x4, .string s4], .int .i64 m]) ∧ Below w.heap.size w w'))
    (HMAX2 : Hid (∀ w, Calls Tryd.prog 19 #[.agg #[.int .i64 k1, .float .f64 x1, .string s1], .agg #[.int .i64 k2, .float .f64 x2, .string s2]] w fun e w' => e = .returned (.tuple #[.agg #[.int .i64 k4, .float .f64 x4, .string s4], .int .i64 m]) ∧ Below w.heap.size w w'))
    (HE3 : Hid (∀ w, Calls Tryd.prog 16 #[.agg #[.int .i64 k3, .float .f64 x3, .string s3], .agg #[.int .i64 k3, .float .f64 x3, .string s3]] w fun e w' => e = .returned (.bool true) ∧ Below w.heap.size w w'))
    (HE4 : Hid (∀ w, Calls Tryd.prog 16 #[.agg #[.int .i64 k4, .float .f64 x4, .string s4], .agg #[.int .i64 k4, .float .f64 x4, .string s4]] w fun e w' => e = .returned (.bool true) ∧ Below w.heap.size w w'))
    (HTX : Hid (∀ w, Below W.heap.size W w → Calls Tryd.prog 20 #[.agg #[.int .i64 k1, .float .f64 x1, .string s1]] w fun e w' => e = .returned (.tuple #[.string t, .int .i64 c]) ∧ Below w.heap.size w w'))
    (HTR : Hid (c = 0 → ∀ w, Below W.heap.size W w → Calls Tryd.prog 21 #[.agg #[.int .i64 k1, .float .f64 x1, .string s1]] w fun e w' => e = .returned (.string t) ∧ Below w.heap.size w w'))
    (hc : c = 0 ∨ (c = 8 ∨ c = 2 ∨ c = 15) ∧ t = ⟨#[]⟩) :
    Calls Tryd.prog 5 #[.agg #[.int .i64 k1, .float .f64 x1, .string s1], .agg #[.int .i64 k2, .float .f64 x2, .string s2]] W fun e w' => e = .returned (.bool true) ∧ Below W.heap.size W w' := by
  have hst := run_store_float
  obtain ⟨W2, hW2⟩ : ∃ W2, (W.alloc (.cells #[.int .i64 k1, .float .f64 x1, .string s1] 24)).alloc (.cells #[.int .i64 k2, .float .f64 x2, .string s2] 24) = W2 := ⟨_, rfl⟩
  have hb2 : Below W.heap.size W W2 := by rw [← hW2]; exact two_below _ _ _
  have hz2 : W2.heap.size = W.heap.size + 2 := by rw [← hW2]; simp
  have hrow : ∀ w' : World, Below W2.heap.size W2 w' → w'.cell? ⟨W.heap.size, 0, none⟩ = some (.int .i64 k1) ∧ w'.cell? ⟨W.heap.size, 1, none⟩ = some (.float .f64 x1) ∧ w'.cell? ⟨W.heap.size, 2, none⟩ = some (.string s1) ∧
      w'.cell? ⟨W.heap.size + 1, 0, none⟩ = some (.int .i64 k2) ∧ w'.cell? ⟨W.heap.size + 1, 1, none⟩ = some (.float .f64 x2) ∧ w'.cell? ⟨W.heap.size + 1, 2, none⟩ = some (.string s2) := fun w' hb => by
    have h1 : w'.heap[W.heap.size]? = some (.cells #[.int .i64 k1, .float .f64 x1, .string s1] 24 (0, 0)) := by
      rw [hb.block _ (by omega), ← hW2, Below.heap_alloc _ _ _ (by simp)]
      exact heap_alloc_new W _
    have h2 : w'.heap[W.heap.size + 1]? = some (.cells #[.int .i64 k2, .float .f64 x2, .string s2] 24 (0, 0)) := by
      rw [hb.block _ (by omega), ← hW2]
      exact heap_alloc2_new W _ _
    exact ⟨cell_of_row _ _ _ _ _ _ h1, cell_of_row _ _ _ _ _ _ h1, cell_of_row _ _ _ _ _ _ h1, cell_of_row _ _ _ _ _ _ h2, cell_of_row _ _ _ _ _ _ h2, cell_of_row _ _ _ _ _ _ h2⟩
  have Hrow := Lib.hid hrow
  have HW2 := Lib.hid hW2
  clear hrow hW2
  have hbq : Below W2.heap.size W2 W2 := Below.refl _ _
  obtain ⟨y0, y1, y2, y3, y4, y5⟩ := Hrow.out _ hbq
  rcases hc with rfl | ⟨rfl | rfl | rfl, rfl⟩
  all_goals
    go_enter Tryd.func5, Tryd.ntmps5
    go_wp2_with fail
    rw [HW2.out]
    go_wp2_with (first | (go_at_call 8; (with_reducible refine (HA.out _).mono ?_); rintro e w2 ⟨rfl, hb2'⟩; (have hbn : Below W2.heap.size W2 w2 := hbq.trans (hb2'.mono hbq.size)); clear hbq hb2' y0 y1 y2 y3 y4 y5; have hbq := hbn; clear hbn; obtain ⟨y0, y1, y2, y3, y4, y5⟩ := Hrow.out _ (hbq)) | (go_at_call 8; (with_reducible refine (HB.out _).mono ?_); rintro e w2 ⟨rfl, hb2'⟩; (have hbn : Below W2.heap.size W2 w2 := hbq.trans (hb2'.mono hbq.size)); clear hbq hb2' y0 y1 y2 y3 y4 y5; have hbq := hbn; clear hbn; obtain ⟨y0, y1, y2, y3, y4, y5⟩ := Hrow.out _ (hbq)) | (go_at_call 12; (with_reducible refine (HK1.out _).mono ?_); rintro e w2 ⟨rfl, hb2'⟩; (have hbn : Below W2.heap.size W2 w2 := hbq.trans (hb2'.mono hbq.size)); clear hbq hb2' y0 y1 y2 y3 y4 y5; have hbq := hbn; clear hbn; obtain ⟨y0, y1, y2, y3, y4, y5⟩ := Hrow.out _ (hbq)) | (go_at_call 15; (with_reducible refine (HK2.out _).mono ?_); rintro e w2 ⟨rfl, hb2'⟩; (have hbn : Below W2.heap.size W2 w2 := hbq.trans (hb2'.mono hbq.size)); clear hbq hb2' y0 y1 y2 y3 y4 y5; have hbq := hbn; clear hbn; obtain ⟨y0, y1, y2, y3, y4, y5⟩ := Hrow.out _ (hbq)) | (go_at_call 10; (with_reducible refine (HS1.out _).mono ?_); rintro e w2 ⟨rfl, hb2'⟩; (have hbn : Below W2.heap.size W2 w2 := hbq.trans (hb2'.mono hbq.size)); clear hbq hb2' y0 y1 y2 y3 y4 y5; have hbq := hbn; clear hbn; obtain ⟨y0, y1, y2, y3, y4, y5⟩ := Hrow.out _ (hbq)) | (go_at_call 16; (with_reducible refine (HS2.out _).mono ?_); rintro e w2 ⟨rfl, hb2'⟩; (have hbn : Below W2.heap.size W2 w2 := hbq.trans (hb2'.mono hbq.size)); clear hbq hb2' y0 y1 y2 y3 y4 y5; have hbq := hbn; clear hbn; obtain ⟨y0, y1, y2, y3, y4, y5⟩ := Hrow.out _ (hbq)) | (go_at_call 9; (with_reducible refine (HL1.out _).mono ?_); rintro e w2 ⟨rfl, hb2'⟩; (have hbn : Below W2.heap.size W2 w2 := hbq.trans (hb2'.mono hbq.size)); clear hbq hb2' y0 y1 y2 y3 y4 y5; have hbq := hbn; clear hbn; obtain ⟨y0, y1, y2, y3, y4, y5⟩ := Hrow.out _ (hbq)) | (go_at_call 17; (with_reducible refine (HL2.out _).mono ?_); rintro e w2 ⟨rfl, hb2'⟩; (have hbn : Below W2.heap.size W2 w2 := hbq.trans (hb2'.mono hbq.size)); clear hbq hb2' y0 y1 y2 y3 y4 y5; have hbq := hbn; clear hbn; obtain ⟨y0, y1, y2, y3, y4, y5⟩ := Hrow.out _ (hbq)))
    all_goals try (
      have r0 := cell_regrown y0
      have r1 := cell_regrown y1
      have r2 := cell_regrown y2
      have r3 := cell_regrown y3
      have r4 := cell_regrown y4
      have r5 := cell_regrown y5
      with_reducible refine wp_region_quiet_below (by kernel_rfl) (by kernel_rfl) ?_
      repeat (with_reducible refine wpQuiet_step ?_; intro K hK; go_simp; first | (with_reducible refine hK _ ?_; clear hK K) | (rw [if_neg (by first | decide | (simp [undef]) | (intro h; cases h))]; with_reducible refine hK _ ?_; clear hK K) | (apply Exists.intro; with_reducible refine ⟨fun _ => ?_, hK _ ?_⟩; (first | (with_reducible exact Calls.regrown_of (HK1.out _)) | (with_reducible exact Calls.regrown_of (HK2.out _)) | (with_reducible exact Calls.regrown_of (HS1.out _)) | (with_reducible exact Calls.regrown_of (HS2.out _)) | (with_reducible exact Calls.regrown_of (HL1.out _)) | (with_reducible exact Calls.regrown_of (HL2.out _))); clear hK K))
      with_reducible refine wpQuiet_nil ?_
      intro w9 hw9
      have hbn : Below W2.heap.size W2 w9 := hbq.trans (by
        obtain ⟨⟨dq, osq⟩, hw''⟩ := hw9
        rw [hw'']
        exact (below_regrown _ _ _).mono hbq.size)
      clear hw9 hbq y0 y1 y2 y3 y4 y5 r0 r1 r2 r3 r4 r5
      have hbq := hbn
      clear hbn
      obtain ⟨y0, y1, y2, y3, y4, y5⟩ := Hrow.out _ (hbq))
    all_goals go_wp2_with (first | (go_at_call 8; (with_reducible refine (HA.out _).mono ?_); rintro e w2 ⟨rfl, hb2'⟩; (have hbn : Below W2.heap.size W2 w2 := hbq.trans (hb2'.mono hbq.size)); clear hbq hb2' y0 y1 y2 y3 y4 y5; have hbq := hbn; clear hbn; obtain ⟨y0, y1, y2, y3, y4, y5⟩ := Hrow.out _ (hbq)) | (go_at_call 8; (with_reducible refine (HB.out _).mono ?_); rintro e w2 ⟨rfl, hb2'⟩; (have hbn : Below W2.heap.size W2 w2 := hbq.trans (hb2'.mono hbq.size)); clear hbq hb2' y0 y1 y2 y3 y4 y5; have hbq := hbn; clear hbn; obtain ⟨y0, y1, y2, y3, y4, y5⟩ := Hrow.out _ (hbq)) | (go_at_call 12; (with_reducible refine (HK1.out _).mono ?_); rintro e w2 ⟨rfl, hb2'⟩; (have hbn : Below W2.heap.size W2 w2 := hbq.trans (hb2'.mono hbq.size)); clear hbq hb2' y0 y1 y2 y3 y4 y5; have hbq := hbn; clear hbn; obtain ⟨y0, y1, y2, y3, y4, y5⟩ := Hrow.out _ (hbq)) | (go_at_call 15; (with_reducible refine (HK2.out _).mono ?_); rintro e w2 ⟨rfl, hb2'⟩; (have hbn : Below W2.heap.size W2 w2 := hbq.trans (hb2'.mono hbq.size)); clear hbq hb2' y0 y1 y2 y3 y4 y5; have hbq := hbn; clear hbn; obtain ⟨y0, y1, y2, y3, y4, y5⟩ := Hrow.out _ (hbq)) | (go_at_call 10; (with_reducible refine (HS1.out _).mono ?_); rintro e w2 ⟨rfl, hb2'⟩; (have hbn : Below W2.heap.size W2 w2 := hbq.trans (hb2'.mono hbq.size)); clear hbq hb2' y0 y1 y2 y3 y4 y5; have hbq := hbn; clear hbn; obtain ⟨y0, y1, y2, y3, y4, y5⟩ := Hrow.out _ (hbq)) | (go_at_call 16; (with_reducible refine (HS2.out _).mono ?_); rintro e w2 ⟨rfl, hb2'⟩; (have hbn : Below W2.heap.size W2 w2 := hbq.trans (hb2'.mono hbq.size)); clear hbq hb2' y0 y1 y2 y3 y4 y5; have hbq := hbn; clear hbn; obtain ⟨y0, y1, y2, y3, y4, y5⟩ := Hrow.out _ (hbq)) | (go_at_call 9; (with_reducible refine (HL1.out _).mono ?_); rintro e w2 ⟨rfl, hb2'⟩; (have hbn : Below W2.heap.size W2 w2 := hbq.trans (hb2'.mono hbq.size)); clear hbq hb2' y0 y1 y2 y3 y4 y5; have hbq := hbn; clear hbn; obtain ⟨y0, y1, y2, y3, y4, y5⟩ := Hrow.out _ (hbq)) | (go_at_call 17; (with_reducible refine (HL2.out _).mono ?_); rintro e w2 ⟨rfl, hb2'⟩; (have hbn : Below W2.heap.size W2 w2 := hbq.trans (hb2'.mono hbq.size)); clear hbq hb2' y0 y1 y2 y3 y4 y5; have hbq := hbn; clear hbn; obtain ⟨y0, y1, y2, y3, y4, y5⟩ := Hrow.out _ (hbq)))
    refine (HADD.out _).mono ?_
    rintro e w6 ⟨rfl, hb6⟩
    have hbr6 : Below W2.heap.size W2 w6 := hbq.trans (hb6.mono hbq.size)
    have hz6 : W2.heap.size ≤ w6.heap.size := hbr6.size
    clear y0 y1 y2 y3 y4 y5 hbq hb6
    obtain ⟨y0, y1, y2, y3, y4, y5⟩ := Hrow.out _ hbr6
    have hn0 : W.heap.size < w6.heap.size := by omega
    have hn1 : W.heap.size + 1 < w6.heap.size := by omega
    go_wp2_with fail
    refine (HADD2.out _).mono ?_
    rintro e w7 ⟨rfl, hb7⟩
    have hbr7 : Below W2.heap.size W2 w7 := (hbr6.alloc hz6 _).trans (hb7.mono (by simp; omega))
    have hx7 : w7.heap[w6.heap.size]? = some (.cells #[.int .i64 k3, .float .f64 x3, .string s3] 24 (0, 0)) := by
      rw [hb7.block _ (by simp)]
      exact heap_alloc_new w6 _
    have hz67 : w6.heap.size < w7.heap.size := by have := hb7.size; simp at this; omega
    obtain ⟨w8, hw8⟩ : ∃ w8, w7.alloc (.cells #[.int .i64 k3, .float .f64 x3, .string s3] 24) = w8 := ⟨_, rfl⟩
    have hbr8 : Below W2.heap.size W2 w8 := by rw [← hw8]; exact hbr7.alloc (by omega) _
    have hz8 : w8.heap.size = w7.heap.size + 1 := by rw [← hw8]; simp
    have HX : Hid (w8.heap[w6.heap.size]? = some (.cells #[.int .i64 k3, .float .f64 x3, .string s3] 24 (0, 0))) := by unfold Hid; rw [← hw8, Below.heap_alloc _ _ _ hz67]; exact hx7
    have HY : Hid (w8.heap[w7.heap.size]? = some (.cells #[.int .i64 k3, .float .f64 x3, .string s3] 24 (0, 0))) := by unfold Hid; rw [← hw8]; exact heap_alloc_new w7 _
    have g0 : w7.cell? ⟨w6.heap.size, 0, none⟩ = some (.int .i64 k3) := cell_of_row _ _ _ _ _ _ hx7
    have g1 : w7.cell? ⟨w6.heap.size, 1, none⟩ = some (.float .f64 x3) := cell_of_row _ _ _ _ _ _ hx7
    have g2 : w7.cell? ⟨w6.heap.size, 2, none⟩ = some (.string s3) := cell_of_row _ _ _ _ _ _ hx7
    have Hw8 := Lib.hid hw8
    clear y0 y1 y2 y3 y4 y5 hw8 hb7 hx7
    obtain ⟨y0, y1, y2, y3, y4, y5⟩ := Hrow.out _ hbr7
    have hn2 : W.heap.size < w7.heap.size := by omega
    have hn3 : W.heap.size + 1 < w7.heap.size := by omega
    have Hf : Hid (∀ w' : World, Below w8.heap.size w8 w' → w'.cell? ⟨w6.heap.size, 0, none⟩ = some (.int .i64 k3) ∧ w'.cell? ⟨w6.heap.size, 1, none⟩ = some (.float .f64 x3) ∧ w'.cell? ⟨w6.heap.size, 2, none⟩ = some (.string s3) ∧
          w'.cell? ⟨w7.heap.size, 0, none⟩ = some (.int .i64 k3) ∧ w'.cell? ⟨w7.heap.size, 1, none⟩ = some (.float .f64 x3) ∧ w'.cell? ⟨w7.heap.size, 2, none⟩ = some (.string s3)) := fun w' h => by
      have h1 := (h.block w6.heap.size (by omega)).trans HX.out
      have h2 := (h.block w7.heap.size (by omega)).trans HY.out
      exact ⟨cell_of_row _ _ _ _ _ _ h1, cell_of_row _ _ _ _ _ _ h1, cell_of_row _ _ _ _ _ _ h1, cell_of_row _ _ _ _ _ _ h2, cell_of_row _ _ _ _ _ _ h2, cell_of_row _ _ _ _ _ _ h2⟩
    go_wp2_with fail
    rw [Hw8.out]
    clear g0 g1 g2 y0 y1 y2 y3 y4 y5
    obtain ⟨y0, y1, y2, y3, y4, y5⟩ := Hrow.out _ hbr8
    have hbq : Below w8.heap.size w8 w8 := Below.refl _ _
    obtain ⟨z0, z1, z2, z3, z4, z5⟩ := Hf.out _ hbq
    go_wp2_with (first | (go_at_call 16; (with_reducible refine (HE3.out _).mono ?_); rintro e w2 ⟨rfl, hb2'⟩; (have hbn : Below w8.heap.size w8 w2 := hbq.trans (hb2'.mono hbq.size)); clear hbq hb2' y0 y1 y2 y3 y4 y5 z0 z1 z2 z3 z4 z5; have hbq := hbn; clear hbn; obtain ⟨y0, y1, y2, y3, y4, y5⟩ := Hrow.out _ (hbr8.trans (hbq.mono hbr8.size)); obtain ⟨z0, z1, z2, z3, z4, z5⟩ := Hf.out _ hbq))
    all_goals try (
      have r0 := cell_regrown y0
      have r1 := cell_regrown y1
      have r2 := cell_regrown y2
      have r3 := cell_regrown y3
      have r4 := cell_regrown y4
      have r5 := cell_regrown y5
      have q0 := cell_regrown z0
      have q1 := cell_regrown z1
      have q2 := cell_regrown z2
      have q3 := cell_regrown z3
      have q4 := cell_regrown z4
      have q5 := cell_regrown z5
      with_reducible refine wp_region_quiet_below (by kernel_rfl) (by kernel_rfl) ?_
      repeat (with_reducible refine wpQuiet_step ?_; intro K hK; go_simp; first | (with_reducible refine hK _ ?_; clear hK K) | (rw [if_neg (by first | decide | (simp [undef]) | (intro h; cases h))]; with_reducible refine hK _ ?_; clear hK K) | (apply Exists.intro; with_reducible refine ⟨fun _ => ?_, hK _ ?_⟩; (first | (with_reducible exact Calls.regrown_of (HE3.out _))); clear hK K))
      with_reducible refine wpQuiet_nil ?_
      intro w9 hw9
      have hbn : Below w8.heap.size w8 w9 := hbq.trans (by
        obtain ⟨⟨dq, osq⟩, hw''⟩ := hw9
        rw [hw'']
        exact (below_regrown _ _ _).mono hbq.size)
      clear hw9 hbq y0 y1 y2 y3 y4 y5 r0 r1 r2 r3 r4 r5 z0 z1 z2 z3 z4 z5 q0 q1 q2 q3 q4 q5
      have hbq := hbn
      clear hbn
      obtain ⟨y0, y1, y2, y3, y4, y5⟩ := Hrow.out _ (hbr8.trans (hbq.mono hbr8.size))
      obtain ⟨z0, z1, z2, z3, z4, z5⟩ := Hf.out _ hbq)
    all_goals go_wp2_with (first | (go_at_call 16; (with_reducible refine (HE3.out _).mono ?_); rintro e w2 ⟨rfl, hb2'⟩; (have hbn : Below w8.heap.size w8 w2 := hbq.trans (hb2'.mono hbq.size)); clear hbq hb2' y0 y1 y2 y3 y4 y5 z0 z1 z2 z3 z4 z5; have hbq := hbn; clear hbn; obtain ⟨y0, y1, y2, y3, y4, y5⟩ := Hrow.out _ (hbr8.trans (hbq.mono hbr8.size)); obtain ⟨z0, z1, z2, z3, z4, z5⟩ := Hf.out _ hbq))
    refine (HMAX.out _).mono ?_
    rintro e w9 ⟨rfl, hb9⟩
    have hbq9 : Below w8.heap.size w8 w9 := hbq.trans (hb9.mono hbq.size)
    have hbr9 : Below W2.heap.size W2 w9 := hbr8.trans (hbq9.mono hbr8.size)
    have hz89 : w8.heap.size ≤ w9.heap.size := hbq9.size
    clear y0 y1 y2 y3 y4 y5 z0 z1 z2 z3 z4 z5
    have HX9 : Hid (w9.heap[w6.heap.size]? = some (.cells #[.int .i64 k3, .float .f64 x3, .string s3] 24 (0, 0))) := (hbq9.block _ (by omega)).trans HX.out
    have HY9 : Hid (w9.heap[w7.heap.size]? = some (.cells #[.int .i64 k3, .float .f64 x3, .string s3] 24 (0, 0))) := (hbq9.block _ (by omega)).trans HY.out
    have hbrs : Below W2.heap.size W2 (w9.setRow w6.heap.size #[.int .i64 k4, .float .f64 x4, .string s4]) := below_setRow hbr9 hz6 _
    obtain ⟨y0, y1, y2, y3, y4, y5⟩ := Hrow.out _ hbrs
    clear HX HY Hw8 hb9 Hf hbq hbq9
    go_wp2_with (refine wpList_store_row rfl 24 _ _ rfl w6.heap.size #[.int .i64 k4, .float .f64 x4, .string s4] rfl rfl 24 _ HX9.out size3 rfl (val_one _ _ _) ?_)
    refine (HMAX2.out _).mono ?_
    rintro e w10 ⟨rfl, hb10⟩
    have hsz : (w9.setRow w6.heap.size #[.int .i64 k4, .float .f64 x4, .string s4]).heap.size = w9.heap.size := by simp [World.setRow]
    have hbr10 : Below W2.heap.size W2 w10 := hbrs.trans (hb10.mono hbrs.size)
    have hz10 : w9.heap.size ≤ w10.heap.size := by have := hb10.size; omega
    have HX10 : Hid (w10.heap[w6.heap.size]? = some (.cells #[.int .i64 k4, .float .f64 x4, .string s4] 24 (0, 0))) := (hb10.block _ (by omega)).trans (setRow_heap _ _ _ _ _ _ HX9.out)
    have HY10 : Hid (w10.heap[w7.heap.size]? = some (.cells #[.int .i64 k3, .float .f64 x3, .string s3] 24 (0, 0))) := (hb10.block _ (by omega)).trans (setRow_offv HY9.out (by omega) _)
    clear y0 y1 y2 y3 y4 y5 hb10 hbr8 hbr7
    have hbr8 : Below W2.heap.size W2 (w10.setRow w7.heap.size #[.int .i64 k4, .float .f64 x4, .string s4]) := below_setRow hbr10 (by omega) _
    have HX : Hid ((w10.setRow w7.heap.size #[.int .i64 k4, .float .f64 x4, .string s4]).heap[w6.heap.size]? = some (.cells #[.int .i64 k4, .float .f64 x4, .string s4] 24 (0, 0))) := setRow_offv HX10.out (by omega) _
    have HY : Hid ((w10.setRow w7.heap.size #[.int .i64 k4, .float .f64 x4, .string s4]).heap[w7.heap.size]? = some (.cells #[.int .i64 k4, .float .f64 x4, .string s4] 24 (0, 0))) := setRow_heap _ _ _ _ _ _ HY10.out
    have hz11 : (w10.setRow w7.heap.size #[.int .i64 k4, .float .f64 x4, .string s4]).heap.size = w10.heap.size := by simp [World.setRow]
    obtain ⟨w11, hw11⟩ : ∃ w11, w10.setRow w7.heap.size #[.int .i64 k4, .float .f64 x4, .string s4] = w11 := ⟨_, rfl⟩
    have Hw11 := Lib.hid hw11
    rw [hw11] at hbr8 HX HY hz11
    have Hf : Hid (∀ w' : World, Below w11.heap.size w11 w' → w'.cell? ⟨w6.heap.size, 0, none⟩ = some (.int .i64 k4) ∧ w'.cell? ⟨w6.heap.size, 1, none⟩ = some (.float .f64 x4) ∧ w'.cell? ⟨w6.heap.size, 2, none⟩ = some (.string s4) ∧
          w'.cell? ⟨w7.heap.size, 0, none⟩ = some (.int .i64 k4) ∧ w'.cell? ⟨w7.heap.size, 1, none⟩ = some (.float .f64 x4) ∧ w'.cell? ⟨w7.heap.size, 2, none⟩ = some (.string s4)) := fun w' h => by
      have h1 := (h.block w6.heap.size (by omega)).trans HX.out
      have h2 := (h.block w7.heap.size (by omega)).trans HY.out
      exact ⟨cell_of_row _ _ _ _ _ _ h1, cell_of_row _ _ _ _ _ _ h1, cell_of_row _ _ _ _ _ _ h1, cell_of_row _ _ _ _ _ _ h2, cell_of_row _ _ _ _ _ _ h2, cell_of_row _ _ _ _ _ _ h2⟩
    obtain ⟨z0, z1, z2, z3, z4, z5⟩ := Hf.out _ (Below.refl _ _)
    obtain ⟨y0, y1, y2, y3, y4, y5⟩ := Hrow.out _ hbr8
    rw [← hw11] at z0 z1 z2 z3 z4 z5 y0 y1 y2 y3 y4 y5
    clear hw11
    go_wp2_with (refine wpList_store_row rfl 24 _ _ rfl w7.heap.size #[.int .i64 k4, .float .f64 x4, .string s4] rfl rfl 24 _ HY10.out size3 rfl (val_one _ _ _) ?_)
    rw [Hw11.out]
    clear y0 y1 y2 y3 y4 y5 z0 z1 z2 z3 z4 z5
    obtain ⟨z0, z1, z2, z3, z4, z5⟩ := Hf.out _ (Below.refl _ _)
    obtain ⟨y0, y1, y2, y3, y4, y5⟩ := Hrow.out _ hbr8
    have hbq : Below w11.heap.size w11 w11 := Below.refl _ _
    have hz11' : W.heap.size ≤ w11.heap.size := by omega
    go_wp2_with (first | (go_at_call 16; (with_reducible refine (HE4.out _).mono ?_); rintro e w2 ⟨rfl, hb2'⟩; (have hbn : Below w11.heap.size w11 w2 := hbq.trans (hb2'.mono hbq.size)); clear hbq hb2' y0 y1 y2 y3 y4 y5 z0 z1 z2 z3 z4 z5; have hbq := hbn; clear hbn; obtain ⟨y0, y1, y2, y3, y4, y5⟩ := Hrow.out _ (hbr8.trans (hbq.mono hbr8.size)); obtain ⟨z0, z1, z2, z3, z4, z5⟩ := Hf.out _ hbq) | (go_at_call 20; (with_reducible refine (HTX.out _ (hb2.trans ((hbr8.trans (hbq.mono hbr8.size)).mono (by omega)))).mono ?_); rintro e w2 ⟨rfl, hb2'⟩; (have hbn : Below w11.heap.size w11 w2 := hbq.trans (hb2'.mono hbq.size)); clear hbq hb2' y0 y1 y2 y3 y4 y5 z0 z1 z2 z3 z4 z5; have hbq := hbn; clear hbn; obtain ⟨y0, y1, y2, y3, y4, y5⟩ := Hrow.out _ (hbr8.trans (hbq.mono hbr8.size)); obtain ⟨z0, z1, z2, z3, z4, z5⟩ := Hf.out _ hbq) | (go_at_call 15; (with_reducible refine (HK2.out _).mono ?_); rintro e w2 ⟨rfl, hb2'⟩; (have hbn : Below w11.heap.size w11 w2 := hbq.trans (hb2'.mono hbq.size)); clear hbq hb2' y0 y1 y2 y3 y4 y5 z0 z1 z2 z3 z4 z5; have hbq := hbn; clear hbn; obtain ⟨y0, y1, y2, y3, y4, y5⟩ := Hrow.out _ (hbr8.trans (hbq.mono hbr8.size)); obtain ⟨z0, z1, z2, z3, z4, z5⟩ := Hf.out _ hbq) | (go_at_call 21; (with_reducible refine (HTR.out (by trivial) _ (hb2.trans ((hbr8.trans (hbq.mono hbr8.size)).mono (by omega)))).mono ?_); rintro e w2 ⟨rfl, hb2'⟩; (have hbn : Below w11.heap.size w11 w2 := hbq.trans (hb2'.mono hbq.size)); clear hbq hb2' y0 y1 y2 y3 y4 y5 z0 z1 z2 z3 z4 z5; have hbq := hbn; clear hbn; obtain ⟨y0, y1, y2, y3, y4, y5⟩ := Hrow.out _ (hbr8.trans (hbq.mono hbr8.size)); obtain ⟨z0, z1, z2, z3, z4, z5⟩ := Hf.out _ hbq) | (go_at_call 11; (with_reducible refine (vwakes_any _).mono ?_); rintro e w2 ⟨rfl, hb2'⟩; (have hbn : Below w11.heap.size w11 w2 := hbq.trans (hb2'.mono hbq.size)); clear hbq hb2' y0 y1 y2 y3 y4 y5 z0 z1 z2 z3 z4 z5; have hbq := hbn; clear hbn; obtain ⟨y0, y1, y2, y3, y4, y5⟩ := Hrow.out _ (hbr8.trans (hbq.mono hbr8.size)); obtain ⟨z0, z1, z2, z3, z4, z5⟩ := Hf.out _ hbq))
    all_goals try (
      have r0 := cell_regrown y0
      have r1 := cell_regrown y1
      have r2 := cell_regrown y2
      have r3 := cell_regrown y3
      have r4 := cell_regrown y4
      have r5 := cell_regrown y5
      have q0 := cell_regrown z0
      have q1 := cell_regrown z1
      have q2 := cell_regrown z2
      have q3 := cell_regrown z3
      have q4 := cell_regrown z4
      have q5 := cell_regrown z5
      with_reducible refine wp_region_quiet_below (by kernel_rfl) (by kernel_rfl) ?_
      repeat (with_reducible refine wpQuiet_step ?_; intro K hK; go_simp; first | (with_reducible refine hK _ ?_; clear hK K) | (rw [if_neg (by first | decide | (simp [undef]) | (intro h; cases h))]; with_reducible refine hK _ ?_; clear hK K) | (apply Exists.intro; with_reducible refine ⟨fun _ => ?_, hK _ ?_⟩; (first | (with_reducible exact Calls.regrown_of (HE4.out _)) | (with_reducible exact Calls.regrown_of (HK2.out _)) | (with_reducible exact Calls.regrown_of (vwakes_any _))); clear hK K))
      with_reducible refine wpQuiet_nil ?_
      intro w9 hw9
      have hbn : Below w11.heap.size w11 w9 := hbq.trans (by
        obtain ⟨⟨dq, osq⟩, hw''⟩ := hw9
        rw [hw'']
        exact (below_regrown _ _ _).mono hbq.size)
      clear hw9 hbq y0 y1 y2 y3 y4 y5 r0 r1 r2 r3 r4 r5 z0 z1 z2 z3 z4 z5 q0 q1 q2 q3 q4 q5
      have hbq := hbn
      clear hbn
      obtain ⟨y0, y1, y2, y3, y4, y5⟩ := Hrow.out _ (hbr8.trans (hbq.mono hbr8.size))
      obtain ⟨z0, z1, z2, z3, z4, z5⟩ := Hf.out _ hbq)
    all_goals go_wp2_with (first | (go_at_call 16; (with_reducible refine (HE4.out _).mono ?_); rintro e w2 ⟨rfl, hb2'⟩; (have hbn : Below w11.heap.size w11 w2 := hbq.trans (hb2'.mono hbq.size)); clear hbq hb2' y0 y1 y2 y3 y4 y5 z0 z1 z2 z3 z4 z5; have hbq := hbn; clear hbn; obtain ⟨y0, y1, y2, y3, y4, y5⟩ := Hrow.out _ (hbr8.trans (hbq.mono hbr8.size)); obtain ⟨z0, z1, z2, z3, z4, z5⟩ := Hf.out _ hbq) | (go_at_call 20; (with_reducible refine (HTX.out _ (hb2.trans ((hbr8.trans (hbq.mono hbr8.size)).mono (by omega)))).mono ?_); rintro e w2 ⟨rfl, hb2'⟩; (have hbn : Below w11.heap.size w11 w2 := hbq.trans (hb2'.mono hbq.size)); clear hbq hb2' y0 y1 y2 y3 y4 y5 z0 z1 z2 z3 z4 z5; have hbq := hbn; clear hbn; obtain ⟨y0, y1, y2, y3, y4, y5⟩ := Hrow.out _ (hbr8.trans (hbq.mono hbr8.size)); obtain ⟨z0, z1, z2, z3, z4, z5⟩ := Hf.out _ hbq) | (go_at_call 15; (with_reducible refine (HK2.out _).mono ?_); rintro e w2 ⟨rfl, hb2'⟩; (have hbn : Below w11.heap.size w11 w2 := hbq.trans (hb2'.mono hbq.size)); clear hbq hb2' y0 y1 y2 y3 y4 y5 z0 z1 z2 z3 z4 z5; have hbq := hbn; clear hbn; obtain ⟨y0, y1, y2, y3, y4, y5⟩ := Hrow.out _ (hbr8.trans (hbq.mono hbr8.size)); obtain ⟨z0, z1, z2, z3, z4, z5⟩ := Hf.out _ hbq) | (go_at_call 21; (with_reducible refine (HTR.out (by trivial) _ (hb2.trans ((hbr8.trans (hbq.mono hbr8.size)).mono (by omega)))).mono ?_); rintro e w2 ⟨rfl, hb2'⟩; (have hbn : Below w11.heap.size w11 w2 := hbq.trans (hb2'.mono hbq.size)); clear hbq hb2' y0 y1 y2 y3 y4 y5 z0 z1 z2 z3 z4 z5; have hbq := hbn; clear hbn; obtain ⟨y0, y1, y2, y3, y4, y5⟩ := Hrow.out _ (hbr8.trans (hbq.mono hbr8.size)); obtain ⟨z0, z1, z2, z3, z4, z5⟩ := Hf.out _ hbq) | (go_at_call 11; (with_reducible refine (vwakes_any _).mono ?_); rintro e w2 ⟨rfl, hb2'⟩; (have hbn : Below w11.heap.size w11 w2 := hbq.trans (hb2'.mono hbq.size)); clear hbq hb2' y0 y1 y2 y3 y4 y5 z0 z1 z2 z3 z4 z5; have hbq := hbn; clear hbn; obtain ⟨y0, y1, y2, y3, y4, y5⟩ := Hrow.out _ (hbr8.trans (hbq.mono hbr8.size)); obtain ⟨z0, z1, z2, z3, z4, z5⟩ := Hf.out _ hbq))
    all_goals try (
      have r0 := cell_regrown y0
      have r1 := cell_regrown y1
      have r2 := cell_regrown y2
      have r3 := cell_regrown y3
      have r4 := cell_regrown y4
      have r5 := cell_regrown y5
      have q0 := cell_regrown z0
      have q1 := cell_regrown z1
      have q2 := cell_regrown z2
      have q3 := cell_regrown z3
      have q4 := cell_regrown z4
      have q5 := cell_regrown z5
      with_reducible refine wp_region_quiet_below (by kernel_rfl) (by kernel_rfl) ?_
      repeat (with_reducible refine wpQuiet_step ?_; intro K hK; go_simp; first | (with_reducible refine hK _ ?_; clear hK K) | (rw [if_neg (by first | decide | (simp [undef]) | (intro h; cases h))]; with_reducible refine hK _ ?_; clear hK K) | (apply Exists.intro; with_reducible refine ⟨fun _ => ?_, hK _ ?_⟩; (first | (with_reducible exact Calls.regrown_of (HE4.out _)) | (with_reducible exact Calls.regrown_of (HK2.out _)) | (with_reducible exact Calls.regrown_of (vwakes_any _))); clear hK K))
      with_reducible refine wpQuiet_nil ?_
      intro w9 hw9
      have hbn : Below w11.heap.size w11 w9 := hbq.trans (by
        obtain ⟨⟨dq, osq⟩, hw''⟩ := hw9
        rw [hw'']
        exact (below_regrown _ _ _).mono hbq.size)
      clear hw9 hbq y0 y1 y2 y3 y4 y5 r0 r1 r2 r3 r4 r5 z0 z1 z2 z3 z4 z5 q0 q1 q2 q3 q4 q5
      have hbq := hbn
      clear hbn
      obtain ⟨y0, y1, y2, y3, y4, y5⟩ := Hrow.out _ (hbr8.trans (hbq.mono hbr8.size))
      obtain ⟨z0, z1, z2, z3, z4, z5⟩ := Hf.out _ hbq)
    all_goals go_wp2_with (first | (go_at_call 16; (with_reducible refine (HE4.out _).mono ?_); rintro e w2 ⟨rfl, hb2'⟩; (have hbn : Below w11.heap.size w11 w2 := hbq.trans (hb2'.mono hbq.size)); clear hbq hb2' y0 y1 y2 y3 y4 y5 z0 z1 z2 z3 z4 z5; have hbq := hbn; clear hbn; obtain ⟨y0, y1, y2, y3, y4, y5⟩ := Hrow.out _ (hbr8.trans (hbq.mono hbr8.size)); obtain ⟨z0, z1, z2, z3, z4, z5⟩ := Hf.out _ hbq) | (go_at_call 20; (with_reducible refine (HTX.out _ (hb2.trans ((hbr8.trans (hbq.mono hbr8.size)).mono (by omega)))).mono ?_); rintro e w2 ⟨rfl, hb2'⟩; (have hbn : Below w11.heap.size w11 w2 := hbq.trans (hb2'.mono hbq.size)); clear hbq hb2' y0 y1 y2 y3 y4 y5 z0 z1 z2 z3 z4 z5; have hbq := hbn; clear hbn; obtain ⟨y0, y1, y2, y3, y4, y5⟩ := Hrow.out _ (hbr8.trans (hbq.mono hbr8.size)); obtain ⟨z0, z1, z2, z3, z4, z5⟩ := Hf.out _ hbq) | (go_at_call 15; (with_reducible refine (HK2.out _).mono ?_); rintro e w2 ⟨rfl, hb2'⟩; (have hbn : Below w11.heap.size w11 w2 := hbq.trans (hb2'.mono hbq.size)); clear hbq hb2' y0 y1 y2 y3 y4 y5 z0 z1 z2 z3 z4 z5; have hbq := hbn; clear hbn; obtain ⟨y0, y1, y2, y3, y4, y5⟩ := Hrow.out _ (hbr8.trans (hbq.mono hbr8.size)); obtain ⟨z0, z1, z2, z3, z4, z5⟩ := Hf.out _ hbq) | (go_at_call 21; (with_reducible refine (HTR.out (by trivial) _ (hb2.trans ((hbr8.trans (hbq.mono hbr8.size)).mono (by omega)))).mono ?_); rintro e w2 ⟨rfl, hb2'⟩; (have hbn : Below w11.heap.size w11 w2 := hbq.trans (hb2'.mono hbq.size)); clear hbq hb2' y0 y1 y2 y3 y4 y5 z0 z1 z2 z3 z4 z5; have hbq := hbn; clear hbn; obtain ⟨y0, y1, y2, y3, y4, y5⟩ := Hrow.out _ (hbr8.trans (hbq.mono hbr8.size)); obtain ⟨z0, z1, z2, z3, z4, z5⟩ := Hf.out _ hbq) | (go_at_call 11; (with_reducible refine (vwakes_any _).mono ?_); rintro e w2 ⟨rfl, hb2'⟩; (have hbn : Below w11.heap.size w11 w2 := hbq.trans (hb2'.mono hbq.size)); clear hbq hb2' y0 y1 y2 y3 y4 y5 z0 z1 z2 z3 z4 z5; have hbq := hbn; clear hbn; obtain ⟨y0, y1, y2, y3, y4, y5⟩ := Hrow.out _ (hbr8.trans (hbq.mono hbr8.size)); obtain ⟨z0, z1, z2, z3, z4, z5⟩ := Hf.out _ hbq))
    all_goals go_ret
    all_goals exact ⟨rfl, (hb2.trans ((hbr8.trans (hbq.mono hbr8.size)).mono (by omega)))⟩
end Go.Proofs.YtpndhfnoppkmgaaDoor
