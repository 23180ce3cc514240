/-
  The walk of ValueJoins, of any two values.
-/
import Derived.Test.YtpndhfnoppkmgaaDoorVjoins
namespace Go.Proofs.YtpndhfnoppkmgaaDoor
open Go.RowKit
set_option maxRecDepth 100000
set_option maxHeartbeats 6400000 in
theorem vjoins_early (a b : Va) (W : World) (ha : a.x < 18446744073709551616) (hb : b.x < 18446744073709551616) (sa : a.s.size ≤ maxLen) (sb : b.s.size ≤ maxLen)
    (h : 2000 < a.s.size ∨ 2000 < b.s.size ∨ chkVa a ≠ 0 ∨ chkVa b ≠ 0) :
    Calls Tryd.prog 4 #[a.v, b.v] W fun e w' => e = .returned (.bool true) ∧ Below W.heap.size W w' := by
  have HA : Hid (∀ w, Calls Tryd.prog 8 #[a.v] w fun e w' => e = .returned (.bool (decide (2000 < a.s.size))) ∧ Below w.heap.size w w') := fun w => vheavy_any a w sa
  have HB : Hid (∀ w, Calls Tryd.prog 8 #[b.v] w fun e w' => e = .returned (.bool (decide (2000 < b.s.size))) ∧ Below w.heap.size w w') := fun w => vheavy_any b w sb
  have HKA : Hid (∀ w, Calls Tryd.prog 12 #[a.v] w fun e w' => e = .returned (.int .i64 (chkVa a)) ∧ Below w.heap.size w w') := fun w => VCheck_any a w ha sa
  have HKB : Hid (∀ w, Calls Tryd.prog 12 #[b.v] w fun e w' => e = .returned (.int .i64 (chkVa b)) ∧ Below w.heap.size w w') := fun w => VCheck_any b w hb sb
  have hv1 := chk_vals a
  have hv2 := chk_vals b
  obtain ⟨c1, hc1⟩ : ∃ c, chkVa a = c := ⟨_, rfl⟩
  obtain ⟨c2, hc2⟩ : ∃ c, chkVa b = c := ⟨_, rfl⟩
  rw [hc1] at HKA hv1 h
  rw [hc2] at HKB hv2 h
  clear hc1 hc2
  obtain ⟨k1, x1, s1⟩ := a
  obtain ⟨k2, x2, s2⟩ := b
  unfold Va.v at HA HB HKA HKB ⊢
  dsimp only at HA HB HKA HKB sa sb h ⊢
  obtain ⟨W2, hW2⟩ : ∃ W2, (W.alloc (.cells #[.int .i64 k1, .float .f64 x1, .string s1] 24)).alloc (.cells #[.int .i64 k2, .float .f64 x2, .string s2] 24) = W2 := ⟨_, rfl⟩
  have hb2 : Below W.heap.size W W2 := by rw [← hW2]; exact two_below _ _ _
  have hz2 : W2.heap.size = W.heap.size + 2 := by rw [← hW2]; simp
  have hrow : ∀ w' : World, Below W2.heap.size W2 w' → w'.cell? ⟨W.heap.size, 0, none⟩ = some (.int .i64 k1) ∧ w'.cell? ⟨W.heap.size, 1, none⟩ = some (.float .f64 x1) ∧ w'.cell? ⟨W.heap.size, 2, none⟩ = some (.string s1) ∧
      w'.cell? ⟨W.heap.size + 1, 0, none⟩ = some (.int .i64 k2) ∧ w'.cell? ⟨W.heap.size + 1, 1, none⟩ = some (.float .f64 x2) ∧ w'.cell? ⟨W.heap.size + 1, 2, none⟩ = some (.string s2) := fun w' hb => by
    have h1 : w'.heap[W.heap.size]? = some (.cells #[.int .i64 k1, .float .f64 x1, .string s1] 24 (0, 0)) := by
      rw [hb.block _ (by omega), ← hW2, Below.heap_alloc _ _ _ (by simp)]
      exact heap_alloc_new W _
    have h2 : w'.heap[W.heap.size + 1]? = some (.cells #[.int .i64 k2, .float .f64 x2, .string s2] 24 (0, 0)) := by
      rw [hb.block _ (by omega), ← hW2]
      exact heap_alloc2_new W _ _
    exact ⟨cell_of_row _ _ _ _ _ _ h1, cell_of_row _ _ _ _ _ _ h1, cell_of_row _ _ _ _ _ _ h1, cell_of_row _ _ _ _ _ _ h2, cell_of_row _ _ _ _ _ _ h2, cell_of_row _ _ _ _ _ _ h2⟩
  have Hrow := Lib.hid hrow
  have HW2 := Lib.hid hW2
  clear hrow hW2
  have hbc : Below W2.heap.size W2 W2 := Below.refl _ _
  obtain ⟨y0, y1, y2, y3, y4, y5⟩ := Hrow.out _ hbc
  rcases Decidable.em (2000 < s1.size) with g1 | g1
  case' inr => rcases Decidable.em (2000 < s2.size) with g2 | g2
  case' inr.inr => rcases hv1 with e1 | e1 | e1 | e1
  case' inr.inr.inl => rcases hv2 with e2 | e2 | e2 | e2
  all_goals try (exfalso; omega)
  all_goals
    first | rw [decide_eq_true g1] at HA | rw [decide_eq_false g1] at HA
    try first | rw [decide_eq_true g2] at HB | rw [decide_eq_false g2] at HB
    try rw [e1] at HKA
    try rw [e2] at HKB
    clear h
    go_enter Tryd.func4, Tryd.ntmps4
    go_wp2_with fail
    rw [HW2.out]
    go_wp2_with (first | (go_at_call 8; (with_reducible refine (HA.out _).mono ?_); rintro e w2 ⟨rfl, hb2'⟩; (have hbn : Below W2.heap.size W2 w2 := hbc.trans (hb2'.mono hbc.size)); clear hbc hb2' y0 y1 y2 y3 y4 y5; have hbc := hbn; clear hbn; obtain ⟨y0, y1, y2, y3, y4, y5⟩ := Hrow.out _ hbc) | (go_at_call 8; (with_reducible refine (HB.out _).mono ?_); rintro e w2 ⟨rfl, hb2'⟩; (have hbn : Below W2.heap.size W2 w2 := hbc.trans (hb2'.mono hbc.size)); clear hbc hb2' y0 y1 y2 y3 y4 y5; have hbc := hbn; clear hbn; obtain ⟨y0, y1, y2, y3, y4, y5⟩ := Hrow.out _ hbc) | (go_at_call 12; (with_reducible refine (HKA.out _).mono ?_); rintro e w2 ⟨rfl, hb2'⟩; (have hbn : Below W2.heap.size W2 w2 := hbc.trans (hb2'.mono hbc.size)); clear hbc hb2' y0 y1 y2 y3 y4 y5; have hbc := hbn; clear hbn; obtain ⟨y0, y1, y2, y3, y4, y5⟩ := Hrow.out _ hbc) | (go_at_call 12; (with_reducible refine (HKB.out _).mono ?_); rintro e w2 ⟨rfl, hb2'⟩; (have hbn : Below W2.heap.size W2 w2 := hbc.trans (hb2'.mono hbc.size)); clear hbc hb2' y0 y1 y2 y3 y4 y5; have hbc := hbn; clear hbn; obtain ⟨y0, y1, y2, y3, y4, y5⟩ := Hrow.out _ hbc))
    go_ret
    exact ⟨rfl, hb2.trans (hbc.mono (by omega))⟩
theorem vjoins_walk (a b : Va) (W : World) (ha : a.x < 18446744073709551616) (hb : b.x < 18446744073709551616) (sa : a.s.size ≤ maxLen) (sb : b.s.size ≤ maxLen) :
    Calls Tryd.prog 4 #[a.v, b.v] W fun e w' => e = .returned (.bool true) ∧ Below W.heap.size W w' := by
  rcases Decidable.em (2000 < a.s.size ∨ 2000 < b.s.size ∨ chkVa a ≠ 0 ∨ chkVa b ≠ 0) with h | h
  · exact vjoins_early a b W ha hb sa sb h
  have h1 : ¬ 2000 < a.s.size := fun e => h (.inl e)
  have h2 : ¬ 2000 < b.s.size := fun e => h (.inr (.inl e))
  have ca : chkVa a = 0 := Decidable.byContradiction fun e => h (.inr (.inr (.inl e)))
  have cb : chkVa b = 0 := Decidable.byContradiction fun e => h (.inr (.inr (.inr e)))
  obtain ⟨x, y, n, m, j1, j2, lx, ly, zx, zy, hc⟩ := join_cases addV a b ha hb sa sb ca cb (fun x y _ _ => addV_lt x y) (fun _ _ => canon_addV _ _) (by rw [addV_comm]; exact same_refl _)
  obtain ⟨x', y', n', m', j3, j4, lx', ly', zx', zy', hc'⟩ := join_cases maxV a b ha hb sa sb ca cb (fun x y h1 h2 => maxV_lt h1 h2) (fun e1 e2 => canon_maxV e1 e2) (same_max _ _)
  have e1 : n' = n ∧ m' = m := by
    have q1 : (joinV addV a b).2 = (joinV maxV a b).2 := by unfold joinV; repeat' split <;> try rfl
    have q2 : (joinV addV b a).2 = (joinV maxV b a).2 := by unfold joinV; repeat' split <;> try rfl
    rw [j1, j3] at q1
    rw [j2, j4] at q2
    exact ⟨q1.symm, q2.symm⟩
  obtain ⟨rfl, rfl⟩ := e1
  have HX : ∀ (mk : Nat → Nat → Nat) (f : Nat) (p q r : Va) (n : Int), joinV mk p q = (r, n) → (∀ w, Calls Tryd.prog f #[p.v, q.v] w (JPost mk p q w)) → ∀ w, Calls Tryd.prog f #[p.v, q.v] w fun e w' => e = .returned (.tuple #[r.v, .int .i64 n]) ∧ Below w.heap.size w w' := fun mk f p q r n hj H w => by
    have := H w
    unfold JPost at this
    rw [hj] at this
    exact this
  refine vjoins_main a.k a.x a.s b.k b.x b.s x.k x.x x.s y.k y.x y.s x'.k x'.x x'.s y'.k y'.x y'.s n' m' W ?_ ?_ ?_ ?_ ?_ ?_ ?_ ?_ ?_ ?_ ?_ ?_ ?_ ?_ ?_
  · exact fun w => by have := vheavy_any a w sa; rw [decide_eq_false h1] at this; exact this
  · exact fun w => by have := vheavy_any b w sb; rw [decide_eq_false h2] at this; exact this
  · exact fun w => by have := VCheck_any a w ha sa; rw [ca] at this; exact this
  · exact fun w => by have := VCheck_any b w hb sb; rw [cb] at this; exact this
  · exact HX addV _ a b x n' j1 (fun w => Vadd_any a b w ha hb sa sb)
  · exact HX addV _ b a y m' j2 (fun w => Vadd_any b a w hb ha sb sa)
  · exact HX maxV _ a b x' n' j3 (fun w => Vmax_any a b w ha hb sa sb)
  · exact HX maxV _ b a y' m' j4 (fun w => Vmax_any b a w hb ha sb sa)
  · exact fun hn w => by
      have := VCheck_any x w lx zx
      rw [show chkVa x = 0 by
        rcases hc with ⟨e, _⟩ | ⟨_, e, _⟩
        · omega
        · exact e] at this
      exact this
  · exact fun hn w => by
      have := VCheck_any x' w lx' zx'
      rw [show chkVa x' = 0 by
        rcases hc' with ⟨e, _⟩ | ⟨_, e, _⟩
        · omega
        · exact e] at this
      exact this
  · exact fun hn hm w => by
      have := VSame_any x y w lx ly
      rw [show sameVa x y = true by
        rcases hc with ⟨e, _⟩ | ⟨_, _, ⟨e, _⟩ | ⟨_, _, _, _, e⟩ | ⟨_, _, _, e⟩⟩
        · omega
        · omega
        · exact e
        · exact e] at this
      exact this
  · exact fun hn hm w => by
      have := VSame_any x' y' w lx' ly'
      rw [show sameVa x' y' = true by
        rcases hc' with ⟨e, _⟩ | ⟨_, _, ⟨e, _⟩ | ⟨_, _, _, _, e⟩ | ⟨_, _, _, e⟩⟩
        · omega
        · omega
        · exact e
        · exact e] at this
      exact this
  · exact fun h0 w => by
      have := VSame_any x b w lx hb
      rw [show sameVa x b = true by
        rcases hc with ⟨_, e, _⟩ | ⟨_, _, ⟨_, _, _, e⟩ | ⟨_, _, _, e, _⟩ | ⟨_, e, _, _⟩⟩
        · exact absurd h0 e
        · exact e
        · exact e
        · omega] at this
      exact this
  · exact fun h0 w => by
      have := VSame_any x' b w lx' hb
      rw [show sameVa x' b = true by
        rcases hc' with ⟨_, e, _⟩ | ⟨_, _, ⟨_, _, _, e⟩ | ⟨_, _, _, e, _⟩ | ⟨_, e, _, _⟩⟩
        · exact absurd h0 e
        · exact e
        · exact e
        · omega] at this
      exact this
  · unfold JC
    rcases hc with ⟨e1, e2, e3, _⟩ | ⟨e1, _, ⟨e2, e3, e4, _⟩ | ⟨e2, e3, e4, _⟩ | ⟨e2, e3, e4, _⟩⟩
    · exact .inl ⟨e1, e2, e3⟩
    · exact .inr (.inl ⟨e1, e2, e3, e4⟩)
    · exact .inr (.inr (.inl ⟨e1, e2, e3, e4⟩))
    · exact .inr (.inr (.inr ⟨e1, e2, e3, e4⟩))
end Go.Proofs.YtpndhfnoppkmgaaDoor
