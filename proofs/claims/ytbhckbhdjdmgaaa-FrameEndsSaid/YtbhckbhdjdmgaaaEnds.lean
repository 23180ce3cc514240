/-
  The walk of skerrylaw03.FrameEnds.
-/
import Derived.Test.YtbhckbhdjdmgaaaWakes
namespace Go.Proofs.Ytbhckbhdjdmgaaa
open Go.RowKit
theorem make_bytes (N : Nat) (i : Int) (e : i = N) (hN : N ≤ 1000000) (W : World) : (Instr.makeSlice 22 (.int .i64 i) (.int .i64 i)).run Try.prog W = .ok (.slice (some ⟨W.heap.size, 0, none⟩) N N) (W.alloc (.cells (madeCells #[.int .u8 0] N) 5)) := by
  subst e
  obtain ⟨i0, hi, hz0, hz1, hz2⟩ := info_parts info_u8
  have h := run_make (P := Try.prog) W 22 5 i0 _ Try.underlying22 hi hz0 .i64 .i64 (N : Int) (N : Int) (by omega) (by omega) (by rw [hz2]; omega) (by omega)
  simpa [hz1, Value.cells] using h
theorem made_one (u : Value) (N : Nat) : madeCells #[u] N = Array.replicate N u := by
  apply Array.ext
  · simp [madeCells]
  · intro i h1 h2
    simp [madeCells, Nat.mod_one]
theorem made_own (w : World) (N : Nat) (hN : N ≤ 1000000) (b : UInt8) (h0 : 0 < N) : OwnB (w.alloc (.cells ((madeCells #[.int .u8 0] N).setIfInBounds 0 (.int .u8 (b.toNat : Int))) 5)) w.heap.size (.slice (some ⟨w.heap.size, 0, none⟩) N N) (b :: List.replicate (N - 1) 0) := by
  obtain ⟨k, rfl⟩ : ∃ k, N = k + 1 := ⟨N - 1, by omega⟩
  rw [made_one]
  refine ⟨by simp, .inr ⟨w.heap.size, k + 1, _, by simp, Nat.le_refl _, heap_alloc_new w _, by simp, by simp only [maxLen]; omega, by simp, ?_⟩⟩
  simp [bv, List.replicate_succ, List.take_of_length_le]
set_option maxHeartbeats 800000 in
theorem ends_walk (b : UInt8) (x : Int) (w : World) :
    Calls Try.prog 5 #[.int .u8 b.toNat, .int .i64 x] w fun e w' => e = .returned (.bool true) ∧ Below w.heap.size w w' := by
  by_cases hx : x < 0
  · go_enter Try.func5, Try.ntmps5
    go_wp2_with fail
    go_ret
    exact ⟨rfl, Below.refl _ _⟩
  by_cases hx2 : 2 < x
  · go_enter Try.func5, Try.ntmps5
    go_wp2_with fail
    go_ret
    exact ⟨rfl, Below.refl _ _⟩
  obtain ⟨j, rfl⟩ := Int.eq_ofNat_of_zero_le (show 0 ≤ x by omega)
  have hj : j ≤ 2 := by omega
  clear hx hx2
  obtain ⟨N, HN⟩ : ∃ N, Hid (16383 + j = N) := ⟨_, rfl⟩
  have hN : N ≤ 16385 := by rw [← HN.out]; omega
  have hN0 : 0 < N := by rw [← HN.out]; omega
  have hmk := make_bytes N (16383 + (j : Int)) (by rw [← HN.out]; simp) (by omega)
  have hc0 : (madeCells #[.int .u8 0] N)[0]? = some (.int .u8 0) := by rw [made_one]; simp [hN0]
  have Hown := Lib.hid (made_own w N (by omega) b hN0)
  obtain ⟨P, HP⟩ : ∃ P, Hid (b :: List.replicate (N - 1) 0 = P) := ⟨_, rfl⟩
  rw [HP.out] at Hown
  have HPl : Hid (P.length = N) := by unfold Hid; rw [← HP.out]; simp; omega
  by_cases hj2 : j = 2
  · have Hj2 := Lib.hid hj2
    have hj3 : ((j : Int) == 2) = true := by simp; omega
    clear hj2
    go_enter Try.func5, Try.ntmps5
    go_wp2_with fail
    refine (Seal_long _ _ _ _ (by have := HN.out; have := Hj2.out; omega) (by simp only [maxLen]; omega)).mono ?_
    rintro e w1 ⟨rfl, rfl⟩
    go_wp2_with fail
    refine (wakes_any _).mono ?_
    rintro e w2 ⟨rfl, hb2⟩
    go_wp2_with fail
    go_ret
    exact ⟨rfl, ((Below.refl _ _).alloc (Nat.le_refl _) _).trans (hb2.mono (by simp))⟩
  · have hN2 : N ≤ 16384 := by rw [← HN.out]; omega
    have hj3 : ((j : Int) == 2) = false := by simp; omega
    clear hj2
    go_enter Try.func5, Try.ntmps5
    go_wp2_with fail
    generalize hw0 : w.alloc (.cells ((madeCells #[.int .u8 0] N).setIfInBounds 0 (.int .u8 (b.toNat : Int))) 5) = w0 at *
    have hb0 : Below w.heap.size w w0 := by rw [← hw0]; exact (Below.refl _ _).alloc (Nat.le_refl _) _
    clear hw0
    obtain ⟨A0, c0, e0, hy0⟩ := own_by Hown.out HPl.out
    injection e0 with e1 e2 e3
    subst e1 e3
    clear e2
    refine (Seal_any _ _ _ _ _ _ (Nat.le_refl _) hy0 hN2).mono ?_
    rintro e w1 ⟨v1, rfl, ho1, hb1⟩
    obtain ⟨A1, c1, rfl, hy1⟩ := own_by ho1 (n := N + 9) (by rw [frm_length, HPl.out])
    have hbw1 := hb0.trans (hb1.mono hb0.size)
    go_wp2_with fail
    have hfirst := first_frm P [] (by rw [HPl.out]; exact hN2)
    rw [List.append_nil] at hfirst
    have Hp : Hid (∀ e w', FirstPost w1 (first (frm P)) e w' → Below w1.heap.size w1 w' ∧ ∃ v, e = .returned (.tuple #[v, .int .i64 ((N + 9 : Nat) : Int), .int .i64 0]) ∧ OwnB w' w1.heap.size v P) := by
      intro e w' ⟨h1, h2⟩
      rw [hfirst] at h2
      refine ⟨h1, ?_⟩
      rw [← HPl.out]
      exact h2
    clear hfirst
    refine (First_any _ _ _ _ _ _ (Nat.le_refl _) hy1).mono ?_
    intro e w4 hp
    obtain ⟨hb4, v4, rfl, ho4⟩ := Hp.out e w4 hp
    clear hp
    have hbw4 : Below w.heap.size w w4 := hbw1.trans (hb4.mono hbw1.size)
    obtain ⟨A4, c4, rfl, hy4⟩ := own_by ho4 HPl.out
    have hb' := (hy0.below hb1 (Nat.le_refl _)).below hb4 hb1.size
    go_wp2_with fail
    refine (Bytes_same _ _ _ _ _ _ _ _ _ _ hy4 hb').mono ?_
    rintro e w5 ⟨rfl, k, rfl⟩
    go_wp2_with fail
    refine (wakes_any _).mono ?_
    rintro e w6 ⟨rfl, hb6⟩
    go_wp2_with fail
    go_ret
    exact ⟨rfl, (below_drewN hbw4 k).trans (hb6.mono (by have := hbw4.size; simpa using this))⟩
end Go.Proofs.Ytbhckbhdjdmgaaa
