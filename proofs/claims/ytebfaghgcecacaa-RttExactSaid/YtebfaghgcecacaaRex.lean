/-
  The walk of RttExact.
-/
import Derived.Test.YtebfaghgcecacaaTimeout
import Derived.RegionCalls
namespace Go.Proofs.Ytebfaghgcecacaa
open Go.RowKit
set_option maxRecDepth 100000 in
set_option maxHeartbeats 6400000 in
theorem rex_walk (m v x : Nat) (lo hi : Int) (W : World) (hm : m < 18446744073709551616) (hv : v < 18446744073709551616) (hx : x < 18446744073709551616) :
    Calls Try.prog 7 #[.agg #[.float .f64 m, .float .f64 v], .float .f64 x, .int .i64 lo, .int .i64 hi] W fun e w' => e = .returned (.bool true) ∧ Below W.heap.size W w' := by
  have HC : Hid (∀ w, Calls Try.prog 28 #[.agg #[.float .f64 m, .float .f64 v]] w fun e w' => e = .returned (.int .i64 (if chk m v = true then 0 else 1)) ∧ Below w.heap.size w w') := fun w => Check_any m v w hm hv
  have HR : Hid (∀ w, Calls Try.prog 21 #[.agg #[.float .f64 m, .float .f64 v]] w fun e w' => e = .returned (.bool (chk m v)) ∧ Below w.heap.size w w') := fun w => RefRtt_any m v w hm hv
  have HN : Hid (∀ w, Calls Try.prog 29 #[.agg #[.float .f64 m, .float .f64 v], .float .f64 x] w (NotePost m v x w)) := fun w => Note_any m v x w hm hv hx
  have HM : Hid (∀ w, Calls Try.prog 30 #[.agg #[.float .f64 m, .float .f64 v], .float .f64 x] w (NotePost m v x w)) := fun w => RefNote_any m v x w hm hv hx
  have HT : Hid (∀ w, Calls Try.prog 31 #[.agg #[.float .f64 m, .float .f64 v], .int .i64 lo, .int .i64 hi] w (ToutPost m v lo hi w)) := fun w => Timeout_any m v lo hi w hm hv
  have HU : Hid (∀ w, Calls Try.prog 32 #[.agg #[.float .f64 m, .float .f64 v], .int .i64 lo, .int .i64 hi] w (ToutPost m v lo hi w)) := fun w => RefTimeout_any m v lo hi w hm hv
  unfold NotePost at HN HM
  unfold ToutPost at HT HU
  obtain ⟨a, b, n, hN⟩ : ∃ (a b : Nat) (n : Int), (if noteB m v x = true then Value.tuple #[.agg #[.float .f64 (noteV m v x).1, .float .f64 (noteV m v x).2], .int .i64 0] else .tuple #[.agg #[.float .f64 0, .float .f64 0], .int .i64 1]) = .tuple #[.agg #[.float .f64 a, .float .f64 b], .int .i64 n] := by
    split
    · exact ⟨_, _, _, rfl⟩
    · exact ⟨_, _, _, rfl⟩
  obtain ⟨k, l, hT⟩ : ∃ k l : Int, (if toutB m v lo hi = true then Value.tuple #[.int .i64 (toutV m v lo hi), .int .i64 0] else .tuple #[.int .i64 0, .int .i64 1]) = .tuple #[.int .i64 k, .int .i64 l] := by
    split
    · exact ⟨_, _, rfl⟩
    · exact ⟨_, _, rfl⟩
  rw [hN] at HN HM
  rw [hT] at HT HU
  clear hN hT
  have hbits := call_bits
  have hst := run_store_float
  obtain ⟨W1, hW1⟩ : ∃ W1, W.alloc (.cells #[.float .f64 m, .float .f64 v] 24) = W1 := ⟨_, rfl⟩
  have hrow : ∀ w' : World, Below W1.heap.size W1 w' → w'.cell? ⟨W.heap.size, 0, none⟩ = some (.float .f64 m) ∧ w'.cell? ⟨W.heap.size, 1, none⟩ = some (.float .f64 v) := fun w' hb => by
    have h : w'.heap[W.heap.size]? = some (.cells #[.float .f64 m, .float .f64 v] 24 (0, 0)) := by
      rw [hb.block _ (by rw [← hW1]; simp), ← hW1]
      exact heap_alloc_new W _
    exact ⟨cell_of_row _ _ _ _ _ _ h, cell_of_row _ _ _ _ _ _ h⟩
  have Hrow := Lib.hid hrow
  have hbW : Below W.heap.size W W1 := by rw [← hW1]; exact (Below.refl _ _).alloc (Nat.le_refl _) _
  have hzW : W1.heap.size = W.heap.size + 1 := by rw [← hW1]; simp
  have HW1 := Lib.hid hW1
  clear hrow hW1
  cases hc : chk m v
  all_goals
    rw [hc] at HC HR
    clear hc
    simp only [if_true, Bool.false_eq_true, if_false] at HC
    go_enter Try.func7, Try.ntmps7
    go_wp2_with fail
    rw [HW1.out]
    have hbc : Below W1.heap.size W1 W1 := Below.refl _ _
    obtain ⟨y0, y1⟩ := Hrow.out _ hbc
    go_region_with (first
      | (go_at_call 27
         refine (New_any _).mono ?_
         rintro e w2 ⟨rfl, hb2⟩
         have hbn : Below W1.heap.size W1 w2 := by first | exact hbc.trans (hb2.mono hbc.size) | exact (Below.drew hbc).trans (hb2.mono hbc.size)
         clear hbc hb2 y0 y1
         have hbc := hbn
         clear hbn
         obtain ⟨y0, y1⟩ := Hrow.out _ hbc)
      | (go_at_call 19
         refine (RefNew_any _).mono ?_
         rintro e w2 ⟨rfl, hb2⟩
         have hbn : Below W1.heap.size W1 w2 := by first | exact hbc.trans (hb2.mono hbc.size) | exact (Below.drew hbc).trans (hb2.mono hbc.size)
         clear hbc hb2 y0 y1
         have hbc := hbn
         clear hbn
         obtain ⟨y0, y1⟩ := Hrow.out _ hbc)
      | (go_at_call 26
         refine (keepRtt_same _ _ _).mono ?_
         rintro e w2 ⟨rfl, hb2⟩
         have hbn : Below W1.heap.size W1 w2 := by first | exact hbc.trans (hb2.mono hbc.size) | exact (Below.drew hbc).trans (hb2.mono hbc.size)
         clear hbc hb2 y0 y1
         have hbc := hbn
         clear hbn
         obtain ⟨y0, y1⟩ := Hrow.out _ hbc)
      | (go_at_call 28
         refine (HC.out _).mono ?_
         rintro e w2 ⟨rfl, hb2⟩
         have hbn : Below W1.heap.size W1 w2 := by first | exact hbc.trans (hb2.mono hbc.size) | exact (Below.drew hbc).trans (hb2.mono hbc.size)
         clear hbc hb2 y0 y1
         have hbc := hbn
         clear hbn
         obtain ⟨y0, y1⟩ := Hrow.out _ hbc)
      | (go_at_call 21
         refine (HR.out _).mono ?_
         rintro e w2 ⟨rfl, hb2⟩
         have hbn : Below W1.heap.size W1 w2 := by first | exact hbc.trans (hb2.mono hbc.size) | exact (Below.drew hbc).trans (hb2.mono hbc.size)
         clear hbc hb2 y0 y1
         have hbc := hbn
         clear hbn
         obtain ⟨y0, y1⟩ := Hrow.out _ hbc))
  all_goals
    go_wp2_with fail
    refine (HN.out _).mono ?_
    rintro e w3 ⟨rfl, hb3⟩
    have hbw3 := hbc.trans (hb3.mono hbc.size)
    have hz3 : W1.heap.size ≤ w3.heap.size := hbw3.size
    have hn3 : W.heap.size < w3.heap.size := by omega
    clear y0 y1 hbc hb3
    obtain ⟨y0, y1⟩ := Hrow.out _ hbw3
    go_wp2_with fail
    refine (HM.out _).mono ?_
    rintro e w4 ⟨rfl, hb4⟩
    have hbw4 : Below W1.heap.size W1 w4 := (hbw3.alloc hz3 _).trans (hb4.mono (by simp; omega))
    have hz4 : W1.heap.size ≤ w4.heap.size := hbw4.size
    have hz34 : w3.heap.size < w4.heap.size := by have := hb4.size; simp at this; omega
    have hr4 : w4.heap[w3.heap.size]? = some (.cells #[.float .f64 a, .float .f64 b] 24 (0, 0)) := by
      rw [hb4.block _ (by simp)]
      exact heap_alloc_new w3 _
    have z0 : w4.cell? ⟨w3.heap.size, 0, none⟩ = some (.float .f64 a) := cell_of_row _ _ _ _ _ _ hr4
    have z1 : w4.cell? ⟨w3.heap.size, 1, none⟩ = some (.float .f64 b) := cell_of_row _ _ _ _ _ _ hr4
    have hn4 : W.heap.size < w4.heap.size := by omega
    have Hr4 := Lib.hid hr4
    clear hr4 hb4 y0 y1
    obtain ⟨y0, y1⟩ := Hrow.out _ hbw4
    go_wp2_with fail
  all_goals
    have u0 : (w4.alloc (.cells #[.float .f64 a, .float .f64 b] 24)).cell? ⟨w3.heap.size, 0, none⟩ = some (.float .f64 a) := (World.cell?_alloc_lt w4 _ ⟨w3.heap.size, 0, none⟩ hz34).trans z0
    have u1 : (w4.alloc (.cells #[.float .f64 a, .float .f64 b] 24)).cell? ⟨w3.heap.size, 1, none⟩ = some (.float .f64 b) := (World.cell?_alloc_lt w4 _ ⟨w3.heap.size, 1, none⟩ hz34).trans z1
    have hr5 : (w4.alloc (.cells #[.float .f64 a, .float .f64 b] 24)).heap[w4.heap.size]? = some (.cells #[.float .f64 a, .float .f64 b] 24 (0, 0)) := heap_alloc_new w4 _
    have hbw5 : Below W1.heap.size W1 (w4.alloc (.cells #[.float .f64 a, .float .f64 b] 24)) := hbw4.alloc hz4 _
    clear y0 y1 z0 z1 hz34 Hr4
    obtain ⟨y0, y1⟩ := Hrow.out _ hbw5
    obtain ⟨w5, hw5⟩ : ∃ w5, w4.alloc (.cells #[.float .f64 a, .float .f64 b] 24) = w5 := ⟨_, rfl⟩
    rw [hw5] at u0 u1 hr5 hbw5 y0 y1 ⊢
    have v0 : w5.cell? ⟨w4.heap.size, 0, none⟩ = some (.float .f64 a) := cell_of_row _ _ _ _ _ _ hr5
    have v1 : w5.cell? ⟨w4.heap.size, 1, none⟩ = some (.float .f64 b) := cell_of_row _ _ _ _ _ _ hr5
    clear hr5 hw5
    go_quiet (fail)
    have hbw6 : Below W1.heap.size W1 (w5.drewN nq) := below_drewN hbw5 _
    clear u0 u1 v0 v1
    go_wp2_with fail
    refine (HT.out _).mono ?_
    rintro e w6 ⟨rfl, hb6⟩
    have hbw7 : Below W1.heap.size W1 w6 := hbw6.trans (hb6.mono hbw6.size)
    clear y0 y1 hb6
    obtain ⟨y0, y1⟩ := Hrow.out _ hbw7
    go_wp2_with fail
    refine (HU.out _).mono ?_
    rintro e w7 ⟨rfl, hb7⟩
    have hbw8 : Below W1.heap.size W1 w7 := hbw7.trans (hb7.mono hbw7.size)
    go_wp2_with fail
    refine (rwakes_any _).mono ?_
    rintro e w8 ⟨rfl, hb8⟩
    go_wp2_with fail
    go_ret
    exact ⟨rfl, hbW.trans ((hbw8.trans (hb8.mono hbw8.size)).mono (by omega))⟩
end Go.Proofs.Ytebfaghgcecacaa
