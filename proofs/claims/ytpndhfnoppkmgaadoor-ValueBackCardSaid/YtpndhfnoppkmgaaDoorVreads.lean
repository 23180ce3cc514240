/-
  The walk of ValueReads.
-/
import Derived.Test.YtpndhfnoppkmgaaDoorVrparse
import Derived.Test.YtpndhfnoppkmgaaDoorVorder
namespace Go.Proofs.YtpndhfnoppkmgaaDoor
open Go.RowKit
set_option maxRecDepth 100000
theorem sameVa_self (a : Va) : sameVa a a = true := by
  unfold sameVa eqS
  simp
  unfold sameB
  exact decide_eq_true rfl
theorem cells3 {w : World} {g : Nat} {k : Int} {x : Nat} {s : ByteArray} (h : w.heap[g]? = some (.cells #[.int .i64 k, .float .f64 x, .string s] 24 (0, 0))) :
    w.cell? ⟨g, 0, none⟩ = some (.int .i64 k) ∧ w.cell? ⟨g, 1, none⟩ = some (.float .f64 x) ∧ w.cell? ⟨g, 2, none⟩ = some (.string s) :=
  ⟨cell_of_row _ _ _ _ _ _ h, cell_of_row _ _ _ _ _ _ h, cell_of_row _ _ _ _ _ _ h⟩
set_option maxHeartbeats 3200000 in
theorem reads_main (s : ByteArray) (k : Int) (x : Nat) (t : ByteArray) (ok : Bool) (W : World) (hs : s.size ≤ 2000)
    (HP : Hid (∀ w, Below W.heap.size W w → Calls Tryd.prog 22 #[.string s] w fun e w' => e = .returned (.tuple #[.agg #[.int .i64 k, .float .f64 x, .string t], .int .i64 (if ok = true then 0 else 3)]) ∧ Below w.heap.size w w'))
    (HR : Hid (∀ w, Below W.heap.size W w → Calls Tryd.prog 23 #[.string s] w fun e w' => e = .returned (.tuple #[.agg #[.int .i64 k, .float .f64 x, .string t], .bool ok]) ∧ Below w.heap.size w w'))
    (HK : Hid (∀ w, Calls Tryd.prog 16 #[.agg #[.int .i64 k, .float .f64 x, .string t], .agg #[.int .i64 k, .float .f64 x, .string t]] w fun e w' => e = .returned (.bool true) ∧ Below w.heap.size w w'))
    (HT : Hid (ok = true → ∀ w, Below W.heap.size W w → Calls Tryd.prog 20 #[.agg #[.int .i64 k, .float .f64 x, .string t]] w fun e w' => e = .returned (.tuple #[.string s, .int .i64 0]) ∧ Below w.heap.size w w'))
    (HC : Hid (ok = true → ∀ w, Calls Tryd.prog 12 #[.agg #[.int .i64 k, .float .f64 x, .string t]] w fun e w' => e = .returned (.int .i64 0) ∧ Below w.heap.size w w')) :
    Calls Tryd.prog 6 #[.string s] W fun e w' => e = .returned (.bool true) ∧ Below W.heap.size W w' := by
  have hst := run_store_float
  have hbW : Below W.heap.size W W := Below.refl _ _
  cases ok
  all_goals
    simp only [if_true, Bool.false_eq_true, if_false] at HP
    go_enter Tryd.func6, Tryd.ntmps6
    go_wp2_with fail
    refine (HP.out _ hbW).mono ?_
    rintro e w1 ⟨rfl, hb1⟩
    go_wp2_with fail
    have hbA : Below W.heap.size W (w1.alloc (.cells #[.int .i64 k, .float .f64 x, .string t] 24)) := hb1.alloc hb1.size _
    refine (HR.out _ hbA).mono ?_
    rintro e w2 ⟨rfl, hb2⟩
    have hz2 : w1.heap.size < w2.heap.size := by have := hb2.size; simp at this; omega
    have hx2 : w2.heap[w1.heap.size]? = some (.cells #[.int .i64 k, .float .f64 x, .string t] 24 (0, 0)) := by
      rw [hb2.block _ (by simp)]
      exact heap_alloc_new w1 _
    obtain ⟨c0, c1, c2⟩ := cells3 hx2
    have hbB : Below W.heap.size W w2 := hbA.trans (hb2.mono hbA.size)
    have Hx2 := Lib.hid hx2
    have HbB := Lib.hid hbB
    clear hx2 hb1 hbA hb2 hbB
    go_wp2_with fail
    refine (HK.out _).mono ?_
    rintro e w4 ⟨rfl, hb4⟩
    have hbC : Below W.heap.size W w4 := (HbB.out.alloc HbB.out.size _).trans (hb4.mono (by simp; have := HbB.out.size; omega))
    have hz4 : w1.heap.size < w4.heap.size := by have := hb4.size; simp at this; omega
    have hx4 : w4.heap[w1.heap.size]? = some (.cells #[.int .i64 k, .float .f64 x, .string t] 24 (0, 0)) := by
      rw [hb4.block _ (by simp; omega), Below.heap_alloc _ _ _ hz2]
      exact Hx2.out
    obtain ⟨d0, d1, d2⟩ := cells3 hx4
    have Hx4 := Lib.hid hx4
    have HbC := Lib.hid hbC
    clear c0 c1 c2 hb4 hx4 hbC Hx2 HbB hz2
    go_wp2_with fail
  · refine (vwakes_any _).mono ?_
    rintro e w5 ⟨rfl, hb5⟩
    go_wp2_with fail
    go_ret
    exact ⟨rfl, HbC.out.trans (hb5.mono HbC.out.size)⟩
  · refine (HT.out (by trivial) _ HbC.out).mono ?_
    rintro e w5 ⟨rfl, hb5⟩
    have hz5 : w1.heap.size < w5.heap.size := by have := hb5.size; omega
    have hx5 := (hb5.block _ hz4).trans Hx4.out
    obtain ⟨e0, e1, e2⟩ := cells3 hx5
    have HbD := Lib.hid (HbC.out.trans (hb5.mono HbC.out.size))
    clear d0 d1 d2 hb5 hx5 HbC
    go_wp2_with fail
    refine (HC.out (by trivial) _).mono ?_
    rintro e w6 ⟨rfl, hb6⟩
    have HbE := Lib.hid (HbD.out.trans (hb6.mono HbD.out.size))
    clear e0 e1 e2 hb6 HbD
    go_wp2_with fail
    refine (vwakes_any _).mono ?_
    rintro e w7 ⟨rfl, hb7⟩
    go_wp2_with fail
    go_ret
    exact ⟨rfl, HbE.out.trans (hb7.mono HbE.out.size)⟩
set_option maxHeartbeats 400000 in
theorem reads_early (s : ByteArray) (W : World) (hs : 2000 < s.size) (hm : s.size ≤ maxLen) :
    Calls Tryd.prog 6 #[.string s] W fun e w' => e = .returned (.bool true) ∧ Below W.heap.size W w' := by
  unfold maxLen at hm
  go_enter Tryd.func6, Tryd.ntmps6
  go_wp2_with fail
  go_ret
  exact ⟨rfl, below_self _⟩
theorem reads_walk (s : ByteArray) (W : World) (hm : s.size ≤ maxLen) (hT : TzAt W) (hE : ErrAt W) :
    Calls Tryd.prog 6 #[.string s] W fun e w' => e = .returned (.bool true) ∧ Below W.heap.size W w' := by
  rcases Decidable.em (2000 < s.size) with h | h
  · exact reads_early s W h hm
  have hlt : (pvV s.data.toList).x < 18446744073709551616 ∧ (pvV s.data.toList).s.size ≤ 32 := by
    cases hok : pvOk s.data.toList
    · rw [pvV_no hok]
      exact ⟨by dsimp only; omega, by dsimp only; decide⟩
    · exact ⟨(pv_reads hok).2.2.1, (pv_reads hok).2.2.2⟩
  obtain ⟨a, ha⟩ : ∃ a, pvV s.data.toList = a := ⟨_, rfl⟩
  refine reads_main s a.k a.x a.s (pvOk s.data.toList) W (by omega) ?_ ?_ ?_ ?_ ?_
  · intro w hb
    have := VParse_any s w (by omega) (hT.below hb) (hE.below hb)
    unfold PvPost at this
    rw [ha] at this
    exact this
  · intro w hb
    have := RVParse_any s w (by omega) (hT.below hb)
    unfold PvPost at this
    rw [ha] at this
    exact this
  · intro w
    have := keepVa_any a a w (by rw [← ha]; exact hlt.1) (by rw [← ha]; exact hlt.1)
    rw [sameVa_self] at this
    exact this
  · intro hok w hb
    obtain ⟨h1, h2, h3, h4⟩ := pv_reads hok
    have := VText_any (pvV s.data.toList) w h3 (by unfold maxLen; omega) (hT.below hb)
    rw [h1, if_pos rfl, h2, ha] at this
    have e : (⟨s.data.toList.toArray⟩ : ByteArray) = s := by cases s; simp
    rw [e] at this
    exact this
  · intro hok w
    obtain ⟨h1, h2, h3, h4⟩ := pv_reads hok
    have := VCheck_any (pvV s.data.toList) w h3 (by unfold maxLen; omega)
    rw [h1, ha] at this
    exact this
end Go.Proofs.YtpndhfnoppkmgaaDoor
