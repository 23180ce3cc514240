/-
  Two values' sum, and the greater one: the page's walks.
-/
import Derived.Test.YtkckncggiicciaaDoorVref
namespace Go.Proofs.YtkckncggiicciaaDoor
open Go.RowKit
set_option maxRecDepth 100000
set_option maxHeartbeats 6400000 in
theorem RJoin_ADD (mk : Nat → Nat → Nat) (a b : Va) (w : World) (ha : a.x < 18446744073709551616) (hb : b.x < 18446744073709551616) (sa : a.s.size ≤ maxLen) (sb : b.s.size ≤ maxLen)
    (HM : ∀ w, Calls Tryd.prog 116 #[.float .f64 a.x, .float .f64 b.x] w fun e w' => e = .returned (.float .f64 (mk a.x b.x)) ∧ Below w.heap.size w w') :
    Calls Tryd.prog 100 #[a.v, b.v, .bool true] w (JPost mk a b w) := by
  have HC1 : Hid (∀ w, Calls Tryd.prog 25 #[a.v] w fun e w' => e = .returned (.int .i64 (chkVa a)) ∧ Below w.heap.size w w') := fun w => RCheck_any a w ha sa
  have HC2 : Hid (∀ w, Calls Tryd.prog 25 #[b.v] w fun e w' => e = .returned (.int .i64 (chkVa b)) ∧ Below w.heap.size w w') := fun w => RCheck_any b w hb sb
  have hv1 := chk_vals a
  have hv2 := chk_vals b
  have HP1 : Hid (∀ c, chkVa a = c → c ≠ 0 → ∀ w', Below w.heap.size w w' → JPost mk a b w (.returned (.tuple #[zeroVa.v, .int .i64 c])) w') := by
    rintro c rfl hc w' hb
    unfold JPost joinV
    rw [if_pos hc]
    exact ⟨rfl, hb⟩
  have HP2 : Hid (∀ c, chkVa a = 0 → chkVa b = c → c ≠ 0 → ∀ w', Below w.heap.size w w' → JPost mk a b w (.returned (.tuple #[zeroVa.v, .int .i64 c])) w') := by
    rintro c h1 rfl hc w' hb
    unfold JPost joinV
    rw [if_neg (fun h => h h1), if_pos hc]
    exact ⟨rfl, hb⟩
  have HP3 : Hid (chkVa a = 0 → chkVa b = 0 → a.k = 0 → ∀ w', Below w.heap.size w w' → JPost mk a b w (.returned (.tuple #[b.v, .int .i64 0])) w') := by
    rintro h1 h2 h3 w' hb
    unfold JPost joinV
    rw [if_neg (fun h => h h1), if_neg (fun h => h h2), if_pos h3]
    exact ⟨rfl, hb⟩
  have HP4 : Hid (chkVa a = 0 → chkVa b = 0 → a.k ≠ 0 → (a.k ≠ 1 ∨ b.k ≠ 1) → ∀ w', Below w.heap.size w w' → JPost mk a b w (.returned (.tuple #[zeroVa.v, .int .i64 8])) w') := by
    rintro h1 h2 h3 h4 w' hb
    unfold JPost joinV
    rw [if_neg (fun h => h h1), if_neg (fun h => h h2), if_neg h3, if_pos h4]
    exact ⟨rfl, hb⟩
  have HP5 : Hid (chkVa a = 0 → chkVa b = 0 → a.k = 1 → b.k = 1 → ∀ w', Below w.heap.size w w' → JPost mk a b w (.returned (.tuple #[.agg #[.int .i64 1, .float .f64 (mk a.x b.x), .string ⟨#[]⟩], .int .i64 0])) w') := by
    rintro h1 h2 h3 h4 w' hb
    unfold JPost joinV
    rw [if_neg (fun h => h h1), if_neg (fun h => h h2), if_neg (by omega), if_neg (by omega)]
    exact ⟨rfl, hb⟩
  obtain ⟨c1, hc1⟩ : ∃ c, chkVa a = c := ⟨_, rfl⟩
  obtain ⟨c2, hc2⟩ : ∃ c, chkVa b = c := ⟨_, rfl⟩
  obtain ⟨J, hJ⟩ : ∃ J, JPost mk a b w = J := ⟨_, rfl⟩
  obtain ⟨k1, x1, s1⟩ := a
  obtain ⟨k2, x2, s2⟩ := b
  rw [hc1] at HC1 hv1
  rw [hc2] at HC2 hv2
  rw [hJ] at HP1 HP2 HP3 HP4 HP5 ⊢
  rw [hc1] at HP1 HP2 HP3 HP4 HP5
  rw [hc2] at HP2 HP3 HP4 HP5
  obtain ⟨y, hy⟩ : ∃ y, mk x1 x2 = y := ⟨_, rfl⟩
  unfold zeroVa at HP1 HP2 HP4
  unfold Va.v at HP1 HP2 HP3 HP4
  unfold Va.v at HC1 HC2 ⊢
  dsimp only at HP1 HP2 HP3 HP4 HP5 HC1 HC2 HM sa sb ⊢
  rw [hy] at HP5 HM
  have HMk := Lib.hid HM
  have hst := run_store_float
  clear hc1 hc2 hJ hy HM
  obtain ⟨W3, hW3⟩ : ∃ W3, (((w.alloc (.cells #[.int .i64 k1, .float .f64 x1, .string s1] 56)).alloc (.cells #[.int .i64 k2, .float .f64 x2, .string s2] 56)).alloc (.cells #[.int .i64 0, .float .f64 0, .string ⟨#[]⟩] 56)) = W3 := ⟨_, rfl⟩
  have hb3 : Below w.heap.size w W3 := by rw [← hW3]; exact (two_below _ _ _).alloc (by simp <;> omega) _
  have hz3 : W3.heap.size = w.heap.size + 3 := by rw [← hW3]; simp
  have h0 : W3.heap[w.heap.size]? = some (.cells #[.int .i64 k1, .float .f64 x1, .string s1] 56 (0, 0)) := by
    rw [← hW3, Below.heap_alloc _ _ _ (by simp; omega), Below.heap_alloc _ _ _ (by simp)]
    exact heap_alloc_new w _
  have h1 : W3.heap[w.heap.size + 1]? = some (.cells #[.int .i64 k2, .float .f64 x2, .string s2] 56 (0, 0)) := by
    rw [← hW3, Below.heap_alloc _ _ _ (by simp)]
    exact heap_alloc2_new w _ _
  have h2 : W3.heap[w.heap.size + 1 + 1]? = some (.cells #[.int .i64 0, .float .f64 0, .string ⟨#[]⟩] 56 (0, 0)) := by
    rw [← hW3]
    have := heap_alloc_new ((w.alloc (.cells #[.int .i64 k1, .float .f64 x1, .string s1] 56)).alloc (.cells #[.int .i64 k2, .float .f64 x2, .string s2] 56)) (.cells #[.int .i64 0, .float .f64 0, .string ⟨#[]⟩] 56)
    simpa using this
  have Hrow : Hid (∀ w' : World, Below W3.heap.size W3 w' → w'.cell? ⟨w.heap.size, 0, none⟩ = some (.int .i64 k1) ∧ w'.cell? ⟨w.heap.size, 1, none⟩ = some (.float .f64 x1) ∧ w'.cell? ⟨w.heap.size, 2, none⟩ = some (.string s1) ∧
      w'.cell? ⟨w.heap.size + 1, 0, none⟩ = some (.int .i64 k2) ∧ w'.cell? ⟨w.heap.size + 1, 1, none⟩ = some (.float .f64 x2) ∧ w'.cell? ⟨w.heap.size + 1, 2, none⟩ = some (.string s2)) := fun w' hb => by
    have g0 := (hb.block _ (by omega)).trans h0
    have g1 := (hb.block _ (by omega)).trans h1
    exact ⟨cell_of_row _ _ _ _ _ _ g0, cell_of_row _ _ _ _ _ _ g0, cell_of_row _ _ _ _ _ _ g0, cell_of_row _ _ _ _ _ _ g1, cell_of_row _ _ _ _ _ _ g1, cell_of_row _ _ _ _ _ _ g1⟩
  have Hres : Hid (∀ w' : World, Below W3.heap.size W3 w' → w'.heap[w.heap.size + 1 + 1]? = some (.cells #[.int .i64 0, .float .f64 0, .string ⟨#[]⟩] 56 (0, 0))) := fun w' hb => (hb.block _ (by omega)).trans h2
  have HW3 := Lib.hid hW3
  have hbc : Below W3.heap.size W3 W3 := Below.refl _ _
  clear h0 h1 h2 hW3
  rcases hv1 with e1 | e1 | e1 | e1
  case' inl => rcases hv2 with e2 | e2 | e2 | e2
  case' inl.inl =>
    rcases Decidable.em (k1 = 0) with f0 | f0
  case' inl.inl.inr =>
    rcases Decidable.em (k1 = 1) with f1 | f1
  case' inl.inl.inr.inl =>
    rcases Decidable.em (k2 = 1) with f2 | f2
  case' inl.inl.inl =>
    have HQ := Lib.hid (HP3.out e1 e2 f0)
  case' inl.inl.inr.inr =>
    have HQ := Lib.hid (HP4.out e1 e2 f0 (.inl f1))
    have f00 : (k1 == 0) = false := by simpa using f0
    have f11 : (k1 == 1) = false := by simpa using f1
  case' inl.inl.inr.inl.inr =>
    have HQ := Lib.hid (HP4.out e1 e2 f0 (.inr f2))
    have f22 : (k2 == 1) = false := by simpa using f2
  case' inl.inl.inr.inl.inl =>
    have HQ := Lib.hid (HP5.out e1 e2 f1 f2)
  case' inl.inr.inl => have HQ := Lib.hid (HP2.out 8 e1 e2 (by decide))
  case' inl.inr.inr.inl => have HQ := Lib.hid (HP2.out 2 e1 e2 (by decide))
  case' inl.inr.inr.inr => have HQ := Lib.hid (HP2.out 15 e1 e2 (by decide))
  case' inr.inl => have HQ := Lib.hid (HP1.out 8 e1 (by decide))
  case' inr.inr.inl => have HQ := Lib.hid (HP1.out 2 e1 (by decide))
  case' inr.inr.inr => have HQ := Lib.hid (HP1.out 15 e1 (by decide))
  all_goals
    rw [e1] at HC1
    try rw [e2] at HC2
    clear HP1 HP2 HP3 HP4 HP5
    clear e1
    try clear e2
    try subst f0
    try subst f1
    try subst f2
    obtain ⟨z0, z1, z2, z3, z4, z5⟩ := Hrow.out _ hbc
    go_enter Tryd.func100, Tryd.ntmps100
    go_wp2_with fail
    rw [HW3.out]
    go_wp2_with (first
      | (go_at_call 25; (with_reducible refine (HC1.out _).mono ?_); rintro e w5 ⟨rfl, hb5⟩; (have hbn : Below W3.heap.size W3 w5 := hbc.trans (hb5.mono hbc.size)); clear hbc hb5 z0 z1 z2 z3 z4 z5; have hbc := hbn; clear hbn; obtain ⟨z0, z1, z2, z3, z4, z5⟩ := Hrow.out _ hbc)
      | (go_at_call 25; (with_reducible refine (HC2.out _).mono ?_); rintro e w5 ⟨rfl, hb5⟩; (have hbn : Below W3.heap.size W3 w5 := hbc.trans (hb5.mono hbc.size)); clear hbc hb5 z0 z1 z2 z3 z4 z5; have hbc := hbn; clear hbn; obtain ⟨z0, z1, z2, z3, z4, z5⟩ := Hrow.out _ hbc)
      | (go_at_call 116; (with_reducible refine (HMk.out _).mono ?_); rintro e w5 ⟨rfl, hb5⟩; (have hbn : Below W3.heap.size W3 w5 := hbc.trans (hb5.mono hbc.size)); clear hbc hb5 z0 z1 z2 z3 z4 z5; have hbc := hbn; clear hbn; obtain ⟨z0, z1, z2, z3, z4, z5⟩ := Hrow.out _ hbc)
      | (refine wpList_store_row rfl 56 _ _ rfl (w.heap.size + 1 + 1) _ rfl rfl 56 _ (Hres.out _ hbc) size3 rfl (val_one _ _ _) ?_))
    refine bodyPost_ret (results_val Tryd.results100 _ _ (w.heap.size + 1 + 1) _ _ _ _ rfl rfl (setRow_heap _ _ _ _ _ _ (Hres.out _ hbc))) rfl ?_
    exact HQ.out _ (below_setRow (hb3.trans (hbc.mono (by omega))) (by omega) _)
set_option maxHeartbeats 6400000 in
theorem RJoin_MAX (mk : Nat → Nat → Nat) (a b : Va) (w : World) (ha : a.x < 18446744073709551616) (hb : b.x < 18446744073709551616) (sa : a.s.size ≤ maxLen) (sb : b.s.size ≤ maxLen)
    (HM : ∀ w, Calls Tryd.prog 117 #[.float .f64 a.x, .float .f64 b.x] w fun e w' => e = .returned (.float .f64 (mk a.x b.x)) ∧ Below w.heap.size w w') :
    Calls Tryd.prog 100 #[a.v, b.v, .bool false] w (JPost mk a b w) := by
  have HC1 : Hid (∀ w, Calls Tryd.prog 25 #[a.v] w fun e w' => e = .returned (.int .i64 (chkVa a)) ∧ Below w.heap.size w w') := fun w => RCheck_any a w ha sa
  have HC2 : Hid (∀ w, Calls Tryd.prog 25 #[b.v] w fun e w' => e = .returned (.int .i64 (chkVa b)) ∧ Below w.heap.size w w') := fun w => RCheck_any b w hb sb
  have hv1 := chk_vals a
  have hv2 := chk_vals b
  have HP1 : Hid (∀ c, chkVa a = c → c ≠ 0 → ∀ w', Below w.heap.size w w' → JPost mk a b w (.returned (.tuple #[zeroVa.v, .int .i64 c])) w') := by
    rintro c rfl hc w' hb
    unfold JPost joinV
    rw [if_pos hc]
    exact ⟨rfl, hb⟩
  have HP2 : Hid (∀ c, chkVa a = 0 → chkVa b = c → c ≠ 0 → ∀ w', Below w.heap.size w w' → JPost mk a b w (.returned (.tuple #[zeroVa.v, .int .i64 c])) w') := by
    rintro c h1 rfl hc w' hb
    unfold JPost joinV
    rw [if_neg (fun h => h h1), if_pos hc]
    exact ⟨rfl, hb⟩
  have HP3 : Hid (chkVa a = 0 → chkVa b = 0 → a.k = 0 → ∀ w', Below w.heap.size w w' → JPost mk a b w (.returned (.tuple #[b.v, .int .i64 0])) w') := by
    rintro h1 h2 h3 w' hb
    unfold JPost joinV
    rw [if_neg (fun h => h h1), if_neg (fun h => h h2), if_pos h3]
    exact ⟨rfl, hb⟩
  have HP4 : Hid (chkVa a = 0 → chkVa b = 0 → a.k ≠ 0 → (a.k ≠ 1 ∨ b.k ≠ 1) → ∀ w', Below w.heap.size w w' → JPost mk a b w (.returned (.tuple #[zeroVa.v, .int .i64 8])) w') := by
    rintro h1 h2 h3 h4 w' hb
    unfold JPost joinV
    rw [if_neg (fun h => h h1), if_neg (fun h => h h2), if_neg h3, if_pos h4]
    exact ⟨rfl, hb⟩
  have HP5 : Hid (chkVa a = 0 → chkVa b = 0 → a.k = 1 → b.k = 1 → ∀ w', Below w.heap.size w w' → JPost mk a b w (.returned (.tuple #[.agg #[.int .i64 1, .float .f64 (mk a.x b.x), .string ⟨#[]⟩], .int .i64 0])) w') := by
    rintro h1 h2 h3 h4 w' hb
    unfold JPost joinV
    rw [if_neg (fun h => h h1), if_neg (fun h => h h2), if_neg (by omega), if_neg (by omega)]
    exact ⟨rfl, hb⟩
  obtain ⟨c1, hc1⟩ : ∃ c, chkVa a = c := ⟨_, rfl⟩
  obtain ⟨c2, hc2⟩ : ∃ c, chkVa b = c := ⟨_, rfl⟩
  obtain ⟨J, hJ⟩ : ∃ J, JPost mk a b w = J := ⟨_, rfl⟩
  obtain ⟨k1, x1, s1⟩ := a
  obtain ⟨k2, x2, s2⟩ := b
  rw [hc1] at HC1 hv1
  rw [hc2] at HC2 hv2
  rw [hJ] at HP1 HP2 HP3 HP4 HP5 ⊢
  rw [hc1] at HP1 HP2 HP3 HP4 HP5
  rw [hc2] at HP2 HP3 HP4 HP5
  obtain ⟨y, hy⟩ : ∃ y, mk x1 x2 = y := ⟨_, rfl⟩
  unfold zeroVa at HP1 HP2 HP4
  unfold Va.v at HP1 HP2 HP3 HP4
  unfold Va.v at HC1 HC2 ⊢
  dsimp only at HP1 HP2 HP3 HP4 HP5 HC1 HC2 HM sa sb ⊢
  rw [hy] at HP5 HM
  have HMk := Lib.hid HM
  have hst := run_store_float
  clear hc1 hc2 hJ hy HM
  obtain ⟨W3, hW3⟩ : ∃ W3, (((w.alloc (.cells #[.int .i64 k1, .float .f64 x1, .string s1] 56)).alloc (.cells #[.int .i64 k2, .float .f64 x2, .string s2] 56)).alloc (.cells #[.int .i64 0, .float .f64 0, .string ⟨#[]⟩] 56)) = W3 := ⟨_, rfl⟩
  have hb3 : Below w.heap.size w W3 := by rw [← hW3]; exact (two_below _ _ _).alloc (by simp <;> omega) _
  have hz3 : W3.heap.size = w.heap.size + 3 := by rw [← hW3]; simp
  have h0 : W3.heap[w.heap.size]? = some (.cells #[.int .i64 k1, .float .f64 x1, .string s1] 56 (0, 0)) := by
    rw [← hW3, Below.heap_alloc _ _ _ (by simp; omega), Below.heap_alloc _ _ _ (by simp)]
    exact heap_alloc_new w _
  have h1 : W3.heap[w.heap.size + 1]? = some (.cells #[.int .i64 k2, .float .f64 x2, .string s2] 56 (0, 0)) := by
    rw [← hW3, Below.heap_alloc _ _ _ (by simp)]
    exact heap_alloc2_new w _ _
  have h2 : W3.heap[w.heap.size + 1 + 1]? = some (.cells #[.int .i64 0, .float .f64 0, .string ⟨#[]⟩] 56 (0, 0)) := by
    rw [← hW3]
    have := heap_alloc_new ((w.alloc (.cells #[.int .i64 k1, .float .f64 x1, .string s1] 56)).alloc (.cells #[.int .i64 k2, .float .f64 x2, .string s2] 56)) (.cells #[.int .i64 0, .float .f64 0, .string ⟨#[]⟩] 56)
    simpa using this
  have Hrow : Hid (∀ w' : World, Below W3.heap.size W3 w' → w'.cell? ⟨w.heap.size, 0, none⟩ = some (.int .i64 k1) ∧ w'.cell? ⟨w.heap.size, 1, none⟩ = some (.float .f64 x1) ∧ w'.cell? ⟨w.heap.size, 2, none⟩ = some (.string s1) ∧
      w'.cell? ⟨w.heap.size + 1, 0, none⟩ = some (.int .i64 k2) ∧ w'.cell? ⟨w.heap.size + 1, 1, none⟩ = some (.float .f64 x2) ∧ w'.cell? ⟨w.heap.size + 1, 2, none⟩ = some (.string s2)) := fun w' hb => by
    have g0 := (hb.block _ (by omega)).trans h0
    have g1 := (hb.block _ (by omega)).trans h1
    exact ⟨cell_of_row _ _ _ _ _ _ g0, cell_of_row _ _ _ _ _ _ g0, cell_of_row _ _ _ _ _ _ g0, cell_of_row _ _ _ _ _ _ g1, cell_of_row _ _ _ _ _ _ g1, cell_of_row _ _ _ _ _ _ g1⟩
  have Hres : Hid (∀ w' : World, Below W3.heap.size W3 w' → w'.heap[w.heap.size + 1 + 1]? = some (.cells #[.int .i64 0, .float .f64 0, .string ⟨#[]⟩] 56 (0, 0))) := fun w' hb => (hb.block _ (by omega)).trans h2
  have HW3 := Lib.hid hW3
  have hbc : Below W3.heap.size W3 W3 := Below.refl _ _
  clear h0 h1 h2 hW3
  rcases hv1 with e1 | e1 | e1 | e1
  case' inl => rcases hv2 with e2 | e2 | e2 | e2
  case' inl.inl =>
    rcases Decidable.em (k1 = 0) with f0 | f0
  case' inl.inl.inr =>
    rcases Decidable.em (k1 = 1) with f1 | f1
  case' inl.inl.inr.inl =>
    rcases Decidable.em (k2 = 1) with f2 | f2
  case' inl.inl.inl =>
    have HQ := Lib.hid (HP3.out e1 e2 f0)
  case' inl.inl.inr.inr =>
    have HQ := Lib.hid (HP4.out e1 e2 f0 (.inl f1))
    have f00 : (k1 == 0) = false := by simpa using f0
    have f11 : (k1 == 1) = false := by simpa using f1
  case' inl.inl.inr.inl.inr =>
    have HQ := Lib.hid (HP4.out e1 e2 f0 (.inr f2))
    have f22 : (k2 == 1) = false := by simpa using f2
  case' inl.inl.inr.inl.inl =>
    have HQ := Lib.hid (HP5.out e1 e2 f1 f2)
  case' inl.inr.inl => have HQ := Lib.hid (HP2.out 8 e1 e2 (by decide))
  case' inl.inr.inr.inl => have HQ := Lib.hid (HP2.out 2 e1 e2 (by decide))
  case' inl.inr.inr.inr => have HQ := Lib.hid (HP2.out 15 e1 e2 (by decide))
  case' inr.inl => have HQ := Lib.hid (HP1.out 8 e1 (by decide))
  case' inr.inr.inl => have HQ := Lib.hid (HP1.out 2 e1 (by decide))
  case' inr.inr.inr => have HQ := Lib.hid (HP1.out 15 e1 (by decide))
  all_goals
    rw [e1] at HC1
    try rw [e2] at HC2
    clear HP1 HP2 HP3 HP4 HP5
    clear e1
    try clear e2
    try subst f0
    try subst f1
    try subst f2
    obtain ⟨z0, z1, z2, z3, z4, z5⟩ := Hrow.out _ hbc
    go_enter Tryd.func100, Tryd.ntmps100
    go_wp2_with fail
    rw [HW3.out]
    go_wp2_with (first
      | (go_at_call 25; (with_reducible refine (HC1.out _).mono ?_); rintro e w5 ⟨rfl, hb5⟩; (have hbn : Below W3.heap.size W3 w5 := hbc.trans (hb5.mono hbc.size)); clear hbc hb5 z0 z1 z2 z3 z4 z5; have hbc := hbn; clear hbn; obtain ⟨z0, z1, z2, z3, z4, z5⟩ := Hrow.out _ hbc)
      | (go_at_call 25; (with_reducible refine (HC2.out _).mono ?_); rintro e w5 ⟨rfl, hb5⟩; (have hbn : Below W3.heap.size W3 w5 := hbc.trans (hb5.mono hbc.size)); clear hbc hb5 z0 z1 z2 z3 z4 z5; have hbc := hbn; clear hbn; obtain ⟨z0, z1, z2, z3, z4, z5⟩ := Hrow.out _ hbc)
      | (go_at_call 117; (with_reducible refine (HMk.out _).mono ?_); rintro e w5 ⟨rfl, hb5⟩; (have hbn : Below W3.heap.size W3 w5 := hbc.trans (hb5.mono hbc.size)); clear hbc hb5 z0 z1 z2 z3 z4 z5; have hbc := hbn; clear hbn; obtain ⟨z0, z1, z2, z3, z4, z5⟩ := Hrow.out _ hbc)
      | (refine wpList_store_row rfl 56 _ _ rfl (w.heap.size + 1 + 1) _ rfl rfl 56 _ (Hres.out _ hbc) size3 rfl (val_one _ _ _) ?_))
    refine bodyPost_ret (results_val Tryd.results100 _ _ (w.heap.size + 1 + 1) _ _ _ _ rfl rfl (setRow_heap _ _ _ _ _ _ (Hres.out _ hbc))) rfl ?_
    exact HQ.out _ (below_setRow (hb3.trans (hbc.mono (by omega))) (by omega) _)
end Go.Proofs.YtkckncggiicciaaDoor
