/-
  The walk of ValueExact, of any two values.
-/
import Derived.Test.YtpndhfnoppkmgaaDoorVexact
namespace Go.Proofs.YtpndhfnoppkmgaaDoor
open Go.RowKit
set_option maxRecDepth 100000
set_option maxHeartbeats 3200000 in
theorem vexact_early (a b : Va) (W : World) (sa : a.s.size ≤ maxLen) (sb : b.s.size ≤ maxLen) (h : 2000 < a.s.size ∨ 2000 < b.s.size) :
    Calls Tryd.prog 5 #[a.v, b.v] W fun e w' => e = .returned (.bool true) ∧ Below W.heap.size W w' := by
  have HA : Hid (∀ w, Calls Tryd.prog 8 #[a.v] w fun e w' => e = .returned (.bool (decide (2000 < a.s.size))) ∧ Below w.heap.size w w') := fun w => vheavy_any a w sa
  have HB : Hid (∀ w, Calls Tryd.prog 8 #[b.v] w fun e w' => e = .returned (.bool (decide (2000 < b.s.size))) ∧ Below w.heap.size w w') := fun w => vheavy_any b w sb
  obtain ⟨k1, x1, s1⟩ := a
  obtain ⟨k2, x2, s2⟩ := b
  unfold Va.v at HA HB ⊢
  dsimp only at HA HB sa sb h ⊢
  obtain ⟨W2, hW2⟩ : ∃ W2, (W.alloc (.cells #[.int .i64 k1, .float .f64 x1, .string s1] 24)).alloc (.cells #[.int .i64 k2, .float .f64 x2, .string s2] 24) = W2 := ⟨_, rfl⟩
  have hb2 : Below W.heap.size W W2 := by rw [← hW2]; exact two_below _ _ _
  have hz2 : W2.heap.size = W.heap.size + 2 := by rw [← hW2]; simp
  have hrow : ∀ w' : World, Below W2.heap.size W2 w' → w'.cell? ⟨W.heap.size, 0, none⟩ = some (.int .i64 k1) ∧ w'.cell? ⟨W.heap.size, 1, none⟩ = some (.float .f64 x1) ∧ w'.cell? ⟨W.heap.size, 2, none⟩ = some (.string s1) ∧
      w'.cell? ⟨W.heap.size + 1, 0, none⟩ = some (.int .i64 k2) ∧ w'.cell? ⟨W.heap.size + 1, 1, none⟩ = some (.float .f64 x2) ∧ w'.cell? ⟨W.heap.size + 1, 2, none⟩ = some (.string s2) := fun w' hb => by
    have h1 : w'.heap[W.heap.size]? = some (.cells #[.int .i64 k1, .float .f64 x1, .string s1] 24 (0, 0)) := by
      rw [hb.block _ (by omega), ← hW2, Below.heap_alloc _ _ _ (by simp)]
      exact heap_alloc_new W _
    have h2 : w'.heap[W.heap.size + 1]? = some (.cells #[.int .i64 k2, .float .f64 x2, .string s2] 24 (0, 0)) := by
      rw [hb.block _ (by omega), ← hW2]
      exact heap_alloc2_new W _ _
    exact ⟨cell_of_row _ _ _ _ _ _ h1, cell_of_row _ _ _ _ _ _ h1, cell_of_row _ _ _ _ _ _ h1, cell_of_row _ _ _ _ _ _ h2, cell_of_row _ _ _ _ _ _ h2, cell_of_row _ _ _ _ _ _ h2⟩
  have Hrow := Lib.hid hrow
  have HW2 := Lib.hid hW2
  clear hrow hW2
  have hbc : Below W2.heap.size W2 W2 := Below.refl _ _
  obtain ⟨y0, y1, y2, y3, y4, y5⟩ := Hrow.out _ hbc
  rcases Decidable.em (2000 < s1.size) with g1 | g1
  case' inr => have g2 : 2000 < s2.size := by omega
  all_goals
    first | rw [decide_eq_true g1] at HA | rw [decide_eq_false g1] at HA
    try rw [decide_eq_true g2] at HB
    clear h
    go_enter Tryd.func5, Tryd.ntmps5
    go_wp2_with fail
    rw [HW2.out]
    go_wp2_with (first | (go_at_call 8; (with_reducible refine (HA.out _).mono ?_); rintro e w2 ⟨rfl, hb2'⟩; (have hbn : Below W2.heap.size W2 w2 := hbc.trans (hb2'.mono hbc.size)); clear hbc hb2' y0 y1 y2 y3 y4 y5; have hbc := hbn; clear hbn; obtain ⟨y0, y1, y2, y3, y4, y5⟩ := Hrow.out _ hbc) | (go_at_call 8; (with_reducible refine (HB.out _).mono ?_); rintro e w2 ⟨rfl, hb2'⟩; (have hbn : Below W2.heap.size W2 w2 := hbc.trans (hb2'.mono hbc.size)); clear hbc hb2' y0 y1 y2 y3 y4 y5; have hbc := hbn; clear hbn; obtain ⟨y0, y1, y2, y3, y4, y5⟩ := Hrow.out _ hbc))
    go_ret
    exact ⟨rfl, hb2.trans (hbc.mono (by omega))⟩
theorem vexact_walk (a b : Va) (W : World) (ha : a.x < 18446744073709551616) (hb : b.x < 18446744073709551616) (sa : a.s.size ≤ maxLen) (sb : b.s.size ≤ maxLen) (hT : TzAt W) :
    Calls Tryd.prog 5 #[a.v, b.v] W fun e w' => e = .returned (.bool true) ∧ Below W.heap.size W w' := by
  rcases Decidable.em (2000 < a.s.size ∨ 2000 < b.s.size) with h | h
  · exact vexact_early a b W sa sb h
  have h1 : ¬ 2000 < a.s.size := fun e => h (.inl e)
  have h2 : ¬ 2000 < b.s.size := fun e => h (.inr e)
  obtain ⟨x, n, j1⟩ : ∃ x n, joinV addV a b = (x, n) := ⟨_, _, rfl⟩
  obtain ⟨x', n', j2⟩ : ∃ x n, joinV maxV a b = (x, n) := ⟨_, _, rfl⟩
  have hlt : ∀ (mk : Nat → Nat → Nat) (r : Va) (n : Int), mk a.x b.x < 18446744073709551616 → joinV mk a b = (r, n) → r.x < 18446744073709551616 := fun mk r n hm hj => by
    unfold joinV at hj
    split at hj
    · injection hj with hj _; rw [← hj]; decide
    split at hj
    · injection hj with hj _; rw [← hj]; decide
    split at hj
    · injection hj with hj _; rw [← hj]; exact hb
    split at hj
    · injection hj with hj _; rw [← hj]; decide
    · injection hj with hj _; rw [← hj]; exact hm
  have lx := hlt addV x n (addV_lt _ _) j1
  have lx' := hlt maxV x' n' (maxV_lt ha hb) j2
  have HX : ∀ (mk : Nat → Nat → Nat) (f : Nat) (r : Va) (n : Int), joinV mk a b = (r, n) → (∀ w, Calls Tryd.prog f #[a.v, b.v] w (JPost mk a b w)) → ∀ w, Calls Tryd.prog f #[a.v, b.v] w fun e w' => e = .returned (.tuple #[r.v, .int .i64 n]) ∧ Below w.heap.size w w' := fun mk f r n hj H w => by
    have := H w
    unfold JPost at this
    rw [hj] at this
    exact this
  refine vexact_main a.k a.x a.s b.k b.x b.s x.k x.x x.s x'.k x'.x x'.s n n' (chkVa a) (sameVa a b) (lessVa a b) (if chkVa a = 0 then vtextV a else ⟨#[]⟩) W ?_ ?_ ?_ ?_ ?_ ?_ ?_ ?_ ?_ ?_ ?_ ?_ ?_ ?_ ?_ ?_ ?_
  · exact fun w => by have := vheavy_any a w sa; rw [decide_eq_false h1] at this; exact this
  · exact fun w => by have := vheavy_any b w sb; rw [decide_eq_false h2] at this; exact this
  · exact fun w => VCheck_any a w ha sa
  · exact fun w => RCheck_any a w ha sa
  · exact fun w => VSame_any a b w ha hb
  · exact fun w => keepVa_any a b w ha hb
  · exact fun w => VLess_any a b w ha hb
  · exact fun w => RLess_any a b w ha hb
  · exact HX addV _ x n j1 (fun w => Vadd_any a b w ha hb sa sb)
  · exact HX addV _ x n j1 (fun w => Radd_any a b w ha hb sa sb)
  · exact HX maxV _ x' n' j2 (fun w => Vmax_any a b w ha hb sa sb)
  · exact HX maxV _ x' n' j2 (fun w => Rmax_any a b w ha hb sa sb)
  · exact fun w => by have := keepVa_any x x w lx lx; rw [sameVa_refl] at this; exact this
  · exact fun w => by have := keepVa_any x' x' w lx' lx'; rw [sameVa_refl] at this; exact this
  · exact fun w hw => VText_any a w ha sa (hT.below hw)
  · exact fun hc w hw => by
      rw [if_pos hc]
      refine RText_any a w ha (by omega) (hT.below hw) ?_
      unfold chkVa at hc
      rcases Decidable.em (a.k = 0) with h0 | h0
      · exact .inl h0
      rcases Decidable.em (a.k = 1) with h1 | h1
      · exact .inr (.inl h1)
      rcases Decidable.em (a.k = 2) with h2 | h2
      · exact .inr (.inr h2)
      rw [if_neg h0, if_neg h1, if_neg h2] at hc
      cases hc
  · rcases chk_vals a with h | h | h | h
    · exact .inl h
    · exact .inr ⟨.inl h, if_neg (by omega)⟩
    · exact .inr ⟨.inr (.inl h), if_neg (by omega)⟩
    · exact .inr ⟨.inr (.inr h), if_neg (by omega)⟩
end Go.Proofs.YtpndhfnoppkmgaaDoor
