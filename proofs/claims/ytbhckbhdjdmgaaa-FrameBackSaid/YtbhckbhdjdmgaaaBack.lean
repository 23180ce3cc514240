/-
  The walk of skerrylaw03.FrameBack.
-/
import Derived.Test.YtbhckbhdjdmgaaaWakes
namespace Go.Proofs.Ytbhckbhdjdmgaaa
open Go.RowKit
set_option maxHeartbeats 800000 in
theorem back_walk (A A' : Option Addr) (n cap n' cap' : Nat) (p m : List UInt8) (w : World) (hb : By w w.heap.size A n cap p) (hm : By w w.heap.size A' n' cap' m) :
    Calls Try.prog 3 #[.slice A n cap, .slice A' n' cap'] w fun e w' => e = .returned (.bool true) ∧ Below w.heap.size w w' := by
  have h1 : n ≤ 9223372036854775807 := by have := hb.2.1; have := hb.2.2.1; unfold maxLen at this; omega
  have h2 : n' ≤ 9223372036854775807 := by have := hm.2.1; have := hm.2.2.1; unfold maxLen at this; omega
  by_cases hn : 16384 < n
  · go_enter Try.func3, Try.ntmps3
    go_wp2_with fail
    go_ret
    exact ⟨rfl, Below.refl _ _⟩
  by_cases hn' : 65536 < n'
  · go_enter Try.func3, Try.ntmps3
    go_wp2_with fail
    go_ret
    exact ⟨rfl, Below.refl _ _⟩
  have hl := hb.len
  have Hl := Lib.hid hl
  clear hl
  go_enter Try.func3, Try.ntmps3
  go_wp2_with fail
  refine (Seal_any _ _ _ _ _ _ (Nat.le_refl _) hb (by omega)).mono ?_
  rintro e w1 ⟨v1, rfl, ho1, hb1⟩
  obtain ⟨A1, c1, rfl, hy1⟩ := own_by ho1 (n := n + 9) (by rw [frm_length, Hl.out])
  have hlf := hy1.2.1
  have hne : (((n : Int) + 9) != (n : Int) + 9) = false := by simp
  go_wp2_with fail
  refine (Twin_any _ _ _ _ _ _ hy1 (by omega)).mono ?_
  rintro e w2 ⟨v2, rfl, ho2, hb2⟩
  have hbw2 : Below w.heap.size w w2 := hb1.trans (hb2.mono hb1.size)
  have hm2 := hm.below hbw2 (Nat.le_refl _)
  go_wp2_with (
    (at_builtin
     refine wpList_appB rfl (.tmp 34) (.tmp 35) rfl w1.heap.size v2 (frm p) rfl ho2 w.heap.size A' n' cap' m rfl hm2 (by rw [frm_length, Hl.out]; omega) hb2.size ?_
     intro v3 w3 ho3 hg3))
  have hb3 : Below w1.heap.size w1 w3 := hb2.grown hg3 hb2.size (fun k hk => (ho2.lt k hk).1)
  have hbw3 : Below w.heap.size w w3 := hb1.trans (hb3.mono hb1.size)
  obtain ⟨A3, c3, rfl, hy3⟩ := own_by ho3 (n := n + 9 + n') (by rw [List.length_append, frm_length, Hl.out, hm.len])
  have hfirst := first_frm p m (by have := Hl.out; omega)
  have Hp : Hid (∀ e w', FirstPost w3 (first (frm p ++ m)) e w' → Below w3.heap.size w3 w' ∧ ∃ v, e = .returned (.tuple #[v, .int .i64 ((n + 9 : Nat) : Int), .int .i64 0]) ∧ OwnB w' w3.heap.size v p) := by
    intro e w' ⟨h1, h2⟩
    rw [hfirst] at h2
    refine ⟨h1, ?_⟩
    rw [← Hl.out]
    exact h2
  clear hfirst
  refine (First_any _ _ _ _ _ _ (Nat.le_refl _) hy3).mono ?_
  intro e w4 hp
  obtain ⟨hb4, v4, rfl, ho4⟩ := Hp.out e w4 hp
  clear hp
  have hbw4 : Below w.heap.size w w4 := hbw3.trans (hb4.mono hbw3.size)
  obtain ⟨A4, c4, rfl, hy4⟩ := own_by ho4 Hl.out
  have hb' := hb.below hbw4 (Nat.le_refl _)
  go_wp2_with fail
  refine (Bytes_same _ _ _ _ _ _ _ _ _ _ hy4 hb').mono ?_
  rintro e w5 ⟨rfl, k, rfl⟩
  go_wp2_with fail
  refine (wakes_any _).mono ?_
  rintro e w6 ⟨rfl, hb6⟩
  go_wp2_with fail
  go_ret
  exact ⟨rfl, (below_drewN hbw4 k).trans (hb6.mono (by have := hbw4.size; simpa using this))⟩
end Go.Proofs.Ytbhckbhdjdmgaaa
