/-
  The order of values in plain Lean; the walk of ValueOrder.
-/
import Derived.Test.YtpndhfnoppkmgaaDoorVtext
import Derived.Lib.QuietBelow
namespace Go.Proofs.YtpndhfnoppkmgaaDoor
open Go.RowKit
set_option maxRecDepth 100000
theorem bl_cons (a b : UInt8) (x y : List UInt8) : Op.bytesLess (a :: x) (b :: y) = (decide (a < b) || (a == b && Op.bytesLess x y)) := rfl
theorem bl_tri : ∀ x y : List UInt8, (Op.bytesLess x y = true → Op.bytesLess y x = false ∧ x ≠ y) ∧ (Op.bytesLess x y = false → Op.bytesLess y x = false → x = y) ∧ (x = y → Op.bytesLess x y = false)
  | [], [] => by simp [Op.bytesLess]
  | [], b :: y => by simp [Op.bytesLess]
  | a :: x, [] => by simp [Op.bytesLess]
  | a :: x, b :: y => by
    have ih := bl_tri x y
    rw [bl_cons, bl_cons]
    by_cases h1 : a < b
    · have h2 : ¬ b < a := by rw [UInt8.lt_iff_toNat_lt] at *; omega
      have h3 : a ≠ b := by rintro rfl; rw [UInt8.lt_iff_toNat_lt] at h1; omega
      have h4 : b ≠ a := fun e => h3 e.symm
      simp [h1, h2, h3, h4]
    · by_cases h2 : b < a
      · have h3 : a ≠ b := by rintro rfl; rw [UInt8.lt_iff_toNat_lt] at h2; omega
        simp [h1, h2, h3]
      · have h3 : a = b := by
          apply UInt8.toNat_inj.1
          rw [UInt8.lt_iff_toNat_lt] at *
          omega
        subst h3
        simp only [h1, decide_false, Bool.false_or, beq_self_eq_true, Bool.true_and, List.cons.injEq, true_and, ne_eq]
        exact ih
theorem bl_trans : ∀ x y z : List UInt8, Op.bytesLess x y = true → Op.bytesLess y z = true → Op.bytesLess x z = true
  | x, [], z, h, _ => by cases x <;> simp [Op.bytesLess] at h
  | x, b :: y, [], _, h => by simp [Op.bytesLess] at h
  | [], b :: y, c :: z, _, _ => by simp [Op.bytesLess]
  | a :: x, b :: y, c :: z, h1, h2 => by
    have ih := bl_trans x y z
    rw [bl_cons] at *
    simp only [Bool.or_eq_true, decide_eq_true_eq, Bool.and_eq_true, beq_iff_eq] at *
    rcases h1 with h1 | ⟨rfl, h1⟩
    · rcases h2 with h2 | ⟨rfl, h2⟩
      · left
        rw [UInt8.lt_iff_toNat_lt] at *
        omega
      · exact .inl h1
    · rcases h2 with h2 | ⟨rfl, h2⟩
      · exact .inl h2
      · exact .inr ⟨rfl, ih h1 h2⟩
theorem key_cases (a b : Nat) : (sameB a b = true ∧ lessB a b = false ∧ lessB b a = false) ∨ (sameB a b = false ∧ lessB a b = true ∧ lessB b a = false) ∨ (sameB a b = false ∧ lessB a b = false ∧ lessB b a = true) := by
  unfold sameB lessB
  rcases Int.lt_trichotomy (key a) (key b) with h | h | h
  · right; left
    simp; omega
  · left
    simp; omega
  · right; right
    simp; omega
theorem sameB_comm (a b : Nat) : sameB a b = sameB b a := by
  unfold sameB
  rw [Bool.eq_iff_iff]
  simp
  exact eq_comm
theorem eqS_iff (s t : ByteArray) : eqS s t = true ↔ s.toList = t.toList := by unfold eqS; exact beq_iff_eq
theorem lessVa_k {a b : Va} (h : a.k = b.k) : lessVa a b = if sameB a.x b.x = false then lessB a.x b.x else Op.bytesLess a.s.toList b.s.toList := by unfold lessVa; rw [if_neg (fun h' => h' h)]
theorem lessVa_n {a b : Va} (h : a.k ≠ b.k) : lessVa a b = decide (a.k < b.k) := by unfold lessVa; rw [if_pos h]
theorem order_va (a b : Va) : (lessVa a b = true → lessVa b a = false) ∧ sameVa a b = (!lessVa a b && !lessVa b a) := by
  unfold sameVa
  by_cases hk : a.k = b.k
  · have hk2 : (a.k == b.k) = true := by simpa using hk
    rw [lessVa_k hk, lessVa_k hk.symm, hk2, Bool.true_and, sameB_comm b.x a.x]
    rcases key_cases a.x b.x with ⟨h1, h2, h3⟩ | ⟨h1, h2, h3⟩ | ⟨h1, h2, h3⟩
    · rw [h1]
      simp only [Bool.true_eq_false, if_false, Bool.true_and]
      have t1 := bl_tri a.s.toList b.s.toList
      have t2 := bl_tri b.s.toList a.s.toList
      refine ⟨fun h => (t1.1 h).1, ?_⟩
      rw [Bool.eq_iff_iff, eqS_iff]
      constructor
      · intro h
        rw [t1.2.2 h, t2.2.2 h.symm]
        rfl
      · intro h
        simp at h
        exact t1.2.1 h.1 h.2
    · rw [h1, h2, h3]
      simp
    · rw [h1, h2, h3]
      simp
  · have hk' : ¬ b.k = a.k := fun e => hk e.symm
    have hk2 : (a.k == b.k) = false := by simpa using hk
    rw [lessVa_n hk, lessVa_n hk', hk2, Bool.false_and]
    constructor
    · simp
      omega
    · symm
      simp
      omega
theorem trans_va (a b c : Va) (h1 : lessVa a b = true) (h2 : lessVa b c = true) : lessVa a c = true := by
  by_cases k1 : a.k = b.k
  · rw [lessVa_k k1] at h1
    by_cases k2 : b.k = c.k
    · rw [lessVa_k k2] at h2
      rw [lessVa_k (k1.trans k2)]
      have e1 : ∀ x y : Nat, sameB x y = true ↔ key x = key y := fun x y => by unfold sameB; exact decide_eq_true_iff
      have e2 : ∀ x y : Nat, sameB x y = false ↔ key x ≠ key y := fun x y => by unfold sameB; exact decide_eq_false_iff_not
      have e3 : ∀ x y : Nat, lessB x y = true ↔ key x < key y := fun x y => by unfold lessB; exact decide_eq_true_iff
      by_cases s1 : sameB a.x b.x = false
      · rw [if_pos s1, e3] at h1
        by_cases s2 : sameB b.x c.x = false
        · rw [if_pos s2, e3] at h2
          rw [if_pos ((e2 _ _).2 (by omega)), e3]
          omega
        · have s2' := (e1 _ _).1 (by simpa using s2)
          rw [if_pos ((e2 _ _).2 (by omega)), e3]
          omega
      · have s1' := (e1 _ _).1 (by simpa using s1)
        rw [if_neg s1] at h1
        by_cases s2 : sameB b.x c.x = false
        · rw [if_pos s2, e3] at h2
          rw [if_pos ((e2 _ _).2 (by omega)), e3]
          omega
        · have s2' := (e1 _ _).1 (by simpa using s2)
          rw [if_neg s2] at h2
          rw [if_neg (by rw [e2]; omega)]
          exact bl_trans _ _ _ h1 h2
    · rw [lessVa_n k2] at h2
      rw [lessVa_n (by omega)]
      simp at h2 ⊢
      omega
  · rw [lessVa_n k1] at h1
    simp at h1
    by_cases k2 : b.k = c.k
    · rw [lessVa_n (by omega)]
      simp
      omega
    · rw [lessVa_n k2] at h2
      simp at h2
      rw [lessVa_n (by omega)]
      simp
      omega
/-! ### The walks -/
set_option maxHeartbeats 1000000 in
theorem vwakes_any (w : World) : Calls Tryd.prog 11 #[] w fun e w' => e = .returned (.bool true) ∧ Below w.heap.size w w' := by
  have HX : Hid (∀ w, Calls Tryd.prog 20 #[.agg #[.int .i64 2, .float .f64 0, .string ⟨#[97, 98]⟩]] w fun e w' => e = .returned (.tuple #[.string ⟨#[116, 54, 49, 54, 50]⟩, .int .i64 0]) ∧ Below w.heap.size w w') := fun w =>
    VText_two 0 ⟨#[97, 98]⟩ w (by decide) (by decide) (by omega)
  go_enter Tryd.func11, Tryd.ntmps11
  go_wp2_with (refine (HX.out _).mono ?_; rintro e w2 ⟨rfl, hb2⟩)
  go_ret
  first
    | exact ⟨rfl, hb2⟩
    | exact ⟨rfl, (one_below w _).trans (hb2.mono (by simp))⟩
set_option maxHeartbeats 6400000 in
theorem vorder_walk (a b c : Va) (W : World) (ha : a.x < 18446744073709551616) (hb : b.x < 18446744073709551616) (hc : c.x < 18446744073709551616) (sa : a.s.size ≤ maxLen) (sb : b.s.size ≤ maxLen) (sc : c.s.size ≤ maxLen) :
    Calls Tryd.prog 3 #[a.v, b.v, c.v] W fun e w' => e = .returned (.bool true) ∧ Below W.heap.size W w' := by
  obtain ⟨o1, o2⟩ := order_va a b
  obtain ⟨o3, _⟩ := order_va b a
  have o4 := trans_va a b c
  have HA : Hid (∀ w, Calls Tryd.prog 8 #[a.v] w fun e w' => e = .returned (.bool (decide (2000 < a.s.size))) ∧ Below w.heap.size w w') := fun w => vheavy_any a w sa
  have HB : Hid (∀ w, Calls Tryd.prog 8 #[b.v] w fun e w' => e = .returned (.bool (decide (2000 < b.s.size))) ∧ Below w.heap.size w w') := fun w => vheavy_any b w sb
  have HC : Hid (∀ w, Calls Tryd.prog 8 #[c.v] w fun e w' => e = .returned (.bool (decide (2000 < c.s.size))) ∧ Below w.heap.size w w') := fun w => vheavy_any c w sc
  have HL1 : Hid (∀ w, Calls Tryd.prog 9 #[a.v, b.v] w fun e w' => e = .returned (.bool (lessVa a b)) ∧ Below w.heap.size w w') := fun w => VLess_any a b w ha hb
  have HL2 : Hid (∀ w, Calls Tryd.prog 9 #[b.v, a.v] w fun e w' => e = .returned (.bool (lessVa b a)) ∧ Below w.heap.size w w') := fun w => VLess_any b a w hb ha
  have HL3 : Hid (∀ w, Calls Tryd.prog 9 #[b.v, c.v] w fun e w' => e = .returned (.bool (lessVa b c)) ∧ Below w.heap.size w w') := fun w => VLess_any b c w hb hc
  have HL4 : Hid (∀ w, Calls Tryd.prog 9 #[a.v, c.v] w fun e w' => e = .returned (.bool (lessVa a c)) ∧ Below w.heap.size w w') := fun w => VLess_any a c w ha hc
  have HS : Hid (∀ w, Calls Tryd.prog 10 #[a.v, b.v] w fun e w' => e = .returned (.bool (sameVa a b)) ∧ Below w.heap.size w w') := fun w => VSame_any a b w ha hb
  obtain ⟨l1, e1⟩ : ∃ l, lessVa a b = l := ⟨_, rfl⟩
  obtain ⟨l2, e2⟩ : ∃ l, lessVa b a = l := ⟨_, rfl⟩
  obtain ⟨l3, e3⟩ : ∃ l, lessVa b c = l := ⟨_, rfl⟩
  obtain ⟨l4, e4⟩ : ∃ l, lessVa a c = l := ⟨_, rfl⟩
  rw [o2] at HS
  rw [e1] at HL1 o1 o3 o4
  rw [e2] at HL2 o1 o3
  rw [e3] at HL3 o4
  rw [e4] at HL4 o4
  rw [e1, e2] at HS
  clear o2 e1 e2 e3 e4
  obtain ⟨k1, x1, s1⟩ := a
  obtain ⟨k2, x2, s2⟩ := b
  obtain ⟨k3, x3, s3⟩ := c
  unfold Va.v at HA HB HC HL1 HL2 HL3 HL4 HS ⊢
  dsimp only at HA HB HC HL1 HL2 HL3 HL4 HS sa sb sc ⊢
  obtain ⟨W3, hW3⟩ : ∃ W3, ((W.alloc (.cells #[.int .i64 k1, .float .f64 x1, .string s1] 24)).alloc (.cells #[.int .i64 k2, .float .f64 x2, .string s2] 24)).alloc (.cells #[.int .i64 k3, .float .f64 x3, .string s3] 24) = W3 := ⟨_, rfl⟩
  have hb3 : Below W.heap.size W W3 := by rw [← hW3]; exact (two_below _ _ _).alloc (by simp; omega) _
  have hz3 : W3.heap.size = W.heap.size + 3 := by rw [← hW3]; simp
  have hrow : ∀ w' : World, Below W3.heap.size W3 w' → w'.cell? ⟨W.heap.size, 0, none⟩ = some (.int .i64 k1) ∧ w'.cell? ⟨W.heap.size, 1, none⟩ = some (.float .f64 x1) ∧ w'.cell? ⟨W.heap.size, 2, none⟩ = some (.string s1) ∧
      w'.cell? ⟨W.heap.size + 1, 0, none⟩ = some (.int .i64 k2) ∧ w'.cell? ⟨W.heap.size + 1, 1, none⟩ = some (.float .f64 x2) ∧ w'.cell? ⟨W.heap.size + 1, 2, none⟩ = some (.string s2) ∧
      w'.cell? ⟨W.heap.size + 1 + 1, 0, none⟩ = some (.int .i64 k3) ∧ w'.cell? ⟨W.heap.size + 1 + 1, 1, none⟩ = some (.float .f64 x3) ∧ w'.cell? ⟨W.heap.size + 1 + 1, 2, none⟩ = some (.string s3) := fun w' hb => by
    have h1 : w'.heap[W.heap.size]? = some (.cells #[.int .i64 k1, .float .f64 x1, .string s1] 24 (0, 0)) := by
      rw [hb.block _ (by omega), ← hW3, Below.heap_alloc _ _ _ (by simp; omega), Below.heap_alloc _ _ _ (by simp)]
      exact heap_alloc_new W _
    have h2 : w'.heap[W.heap.size + 1]? = some (.cells #[.int .i64 k2, .float .f64 x2, .string s2] 24 (0, 0)) := by
      rw [hb.block _ (by omega), ← hW3, Below.heap_alloc _ _ _ (by simp)]
      exact heap_alloc2_new W _ _
    have h3 : w'.heap[W.heap.size + 1 + 1]? = some (.cells #[.int .i64 k3, .float .f64 x3, .string s3] 24 (0, 0)) := by
      rw [hb.block _ (by omega), ← hW3]
      have := heap_alloc_new ((W.alloc (.cells #[.int .i64 k1, .float .f64 x1, .string s1] 24)).alloc (.cells #[.int .i64 k2, .float .f64 x2, .string s2] 24)) (.cells #[.int .i64 k3, .float .f64 x3, .string s3] 24)
      simpa using this
    exact ⟨cell_of_row _ _ _ _ _ _ h1, cell_of_row _ _ _ _ _ _ h1, cell_of_row _ _ _ _ _ _ h1, cell_of_row _ _ _ _ _ _ h2, cell_of_row _ _ _ _ _ _ h2, cell_of_row _ _ _ _ _ _ h2, cell_of_row _ _ _ _ _ _ h3, cell_of_row _ _ _ _ _ _ h3, cell_of_row _ _ _ _ _ _ h3⟩
  have Hrow := Lib.hid hrow
  have HW3 := Lib.hid hW3
  clear hrow hW3
  have hbc : Below W3.heap.size W3 W3 := Below.refl _ _
  rcases Decidable.em (2000 < s1.size) with g1 | g1
  case' inr => rcases Decidable.em (2000 < s2.size) with g2 | g2
  case' inr.inr => rcases Decidable.em (2000 < s3.size) with g3 | g3
  all_goals
    first | rw [decide_eq_true g1] at HA | rw [decide_eq_false g1] at HA
    try first | rw [decide_eq_true g2] at HB | rw [decide_eq_false g2] at HB
    try first | rw [decide_eq_true g3] at HC | rw [decide_eq_false g3] at HC
  case' inr.inr.inr =>
    cases l1
    all_goals cases l2
    all_goals cases l3
    all_goals cases l4
    all_goals first | (exfalso; revert o1; decide) | (exfalso; revert o3; decide) | (exfalso; revert o4; decide) | skip
  all_goals
    clear o1 o3 o4
    go_enter Tryd.func3, Tryd.ntmps3
    go_wp2_with fail
    rw [HW3.out]
    obtain ⟨y0, y1, y2, y3, y4, y5, y6, y7, y8⟩ := Hrow.out _ hbc
    go_wp2_with (first
      | (go_at_call 8
         (with_reducible refine (HA.out _).mono ?_)
         rintro e w2 ⟨rfl, hb2⟩
         have hbn : Below W3.heap.size W3 w2 := by first | exact hbc.trans (hb2.mono hbc.size) | exact (Below.drew hbc).trans (hb2.mono hbc.size)
         clear hbc hb2 y0 y1 y2 y3 y4 y5 y6 y7 y8
         have hbc := hbn
         clear hbn
         obtain ⟨y0, y1, y2, y3, y4, y5, y6, y7, y8⟩ := Hrow.out _ hbc)
      | (go_at_call 8
         (with_reducible refine (HB.out _).mono ?_)
         rintro e w2 ⟨rfl, hb2⟩
         have hbn : Below W3.heap.size W3 w2 := by first | exact hbc.trans (hb2.mono hbc.size) | exact (Below.drew hbc).trans (hb2.mono hbc.size)
         clear hbc hb2 y0 y1 y2 y3 y4 y5 y6 y7 y8
         have hbc := hbn
         clear hbn
         obtain ⟨y0, y1, y2, y3, y4, y5, y6, y7, y8⟩ := Hrow.out _ hbc)
      | (go_at_call 8
         (with_reducible refine (HC.out _).mono ?_)
         rintro e w2 ⟨rfl, hb2⟩
         have hbn : Below W3.heap.size W3 w2 := by first | exact hbc.trans (hb2.mono hbc.size) | exact (Below.drew hbc).trans (hb2.mono hbc.size)
         clear hbc hb2 y0 y1 y2 y3 y4 y5 y6 y7 y8
         have hbc := hbn
         clear hbn
         obtain ⟨y0, y1, y2, y3, y4, y5, y6, y7, y8⟩ := Hrow.out _ hbc)
      | (go_at_call 9
         (with_reducible refine (HL1.out _).mono ?_)
         rintro e w2 ⟨rfl, hb2⟩
         have hbn : Below W3.heap.size W3 w2 := by first | exact hbc.trans (hb2.mono hbc.size) | exact (Below.drew hbc).trans (hb2.mono hbc.size)
         clear hbc hb2 y0 y1 y2 y3 y4 y5 y6 y7 y8
         have hbc := hbn
         clear hbn
         obtain ⟨y0, y1, y2, y3, y4, y5, y6, y7, y8⟩ := Hrow.out _ hbc)
      | (go_at_call 9
         (with_reducible refine (HL2.out _).mono ?_)
         rintro e w2 ⟨rfl, hb2⟩
         have hbn : Below W3.heap.size W3 w2 := by first | exact hbc.trans (hb2.mono hbc.size) | exact (Below.drew hbc).trans (hb2.mono hbc.size)
         clear hbc hb2 y0 y1 y2 y3 y4 y5 y6 y7 y8
         have hbc := hbn
         clear hbn
         obtain ⟨y0, y1, y2, y3, y4, y5, y6, y7, y8⟩ := Hrow.out _ hbc)
      | (go_at_call 9
         (with_reducible refine (HL3.out _).mono ?_)
         rintro e w2 ⟨rfl, hb2⟩
         have hbn : Below W3.heap.size W3 w2 := by first | exact hbc.trans (hb2.mono hbc.size) | exact (Below.drew hbc).trans (hb2.mono hbc.size)
         clear hbc hb2 y0 y1 y2 y3 y4 y5 y6 y7 y8
         have hbc := hbn
         clear hbn
         obtain ⟨y0, y1, y2, y3, y4, y5, y6, y7, y8⟩ := Hrow.out _ hbc)
      | (go_at_call 9
         (with_reducible refine (HL4.out _).mono ?_)
         rintro e w2 ⟨rfl, hb2⟩
         have hbn : Below W3.heap.size W3 w2 := by first | exact hbc.trans (hb2.mono hbc.size) | exact (Below.drew hbc).trans (hb2.mono hbc.size)
         clear hbc hb2 y0 y1 y2 y3 y4 y5 y6 y7 y8
         have hbc := hbn
         clear hbn
         obtain ⟨y0, y1, y2, y3, y4, y5, y6, y7, y8⟩ := Hrow.out _ hbc)
      | (go_at_call 10
         (with_reducible refine (HS.out _).mono ?_)
         rintro e w2 ⟨rfl, hb2⟩
         have hbn : Below W3.heap.size W3 w2 := by first | exact hbc.trans (hb2.mono hbc.size) | exact (Below.drew hbc).trans (hb2.mono hbc.size)
         clear hbc hb2 y0 y1 y2 y3 y4 y5 y6 y7 y8
         have hbc := hbn
         clear hbn
         obtain ⟨y0, y1, y2, y3, y4, y5, y6, y7, y8⟩ := Hrow.out _ hbc)
      | (go_at_call 11; refine (vwakes_any _).mono ?_; rintro e w9 ⟨rfl, hb9⟩))
    try (
      have z0 := cell_regrown y0
      have z1 := cell_regrown y1
      have z2 := cell_regrown y2
      have z3 := cell_regrown y3
      have z4 := cell_regrown y4
      have z5 := cell_regrown y5
      have z6 := cell_regrown y6
      have z7 := cell_regrown y7
      have z8 := cell_regrown y8
      refine wp_region_quiet_below (by kernel_rfl) (by kernel_rfl) ?_
      repeat (quiet_step (first | (with_reducible exact Calls.regrown_of (HL1.out _)) | (with_reducible exact Calls.regrown_of (HL2.out _)) | (with_reducible exact Calls.regrown_of (HL3.out _)) | (with_reducible exact Calls.regrown_of (HL4.out _)) | (with_reducible exact Calls.regrown_of (HS.out _))))
      refine wpQuiet_nil ?_
      intro _ hw'
      obtain ⟨⟨dq, osq⟩, hw''⟩ := hw'
      subst hw''
      have hbn := hbc.trans ((below_regrown _ dq osq).mono hbc.size)
      clear hbc z0 z1 z2 z3 z4 z5 z6 z7 z8 y0 y1 y2 y3 y4 y5 y6 y7 y8
      have hbc := hbn
      clear hbn
      obtain ⟨y0, y1, y2, y3, y4, y5, y6, y7, y8⟩ := Hrow.out _ hbc)
    all_goals go_wp2_with (first
      | (go_at_call 8
         (with_reducible refine (HA.out _).mono ?_)
         rintro e w2 ⟨rfl, hb2⟩
         have hbn : Below W3.heap.size W3 w2 := by first | exact hbc.trans (hb2.mono hbc.size) | exact (Below.drew hbc).trans (hb2.mono hbc.size)
         clear hbc hb2 y0 y1 y2 y3 y4 y5 y6 y7 y8
         have hbc := hbn
         clear hbn
         obtain ⟨y0, y1, y2, y3, y4, y5, y6, y7, y8⟩ := Hrow.out _ hbc)
      | (go_at_call 8
         (with_reducible refine (HB.out _).mono ?_)
         rintro e w2 ⟨rfl, hb2⟩
         have hbn : Below W3.heap.size W3 w2 := by first | exact hbc.trans (hb2.mono hbc.size) | exact (Below.drew hbc).trans (hb2.mono hbc.size)
         clear hbc hb2 y0 y1 y2 y3 y4 y5 y6 y7 y8
         have hbc := hbn
         clear hbn
         obtain ⟨y0, y1, y2, y3, y4, y5, y6, y7, y8⟩ := Hrow.out _ hbc)
      | (go_at_call 8
         (with_reducible refine (HC.out _).mono ?_)
         rintro e w2 ⟨rfl, hb2⟩
         have hbn : Below W3.heap.size W3 w2 := by first | exact hbc.trans (hb2.mono hbc.size) | exact (Below.drew hbc).trans (hb2.mono hbc.size)
         clear hbc hb2 y0 y1 y2 y3 y4 y5 y6 y7 y8
         have hbc := hbn
         clear hbn
         obtain ⟨y0, y1, y2, y3, y4, y5, y6, y7, y8⟩ := Hrow.out _ hbc)
      | (go_at_call 9
         (with_reducible refine (HL1.out _).mono ?_)
         rintro e w2 ⟨rfl, hb2⟩
         have hbn : Below W3.heap.size W3 w2 := by first | exact hbc.trans (hb2.mono hbc.size) | exact (Below.drew hbc).trans (hb2.mono hbc.size)
         clear hbc hb2 y0 y1 y2 y3 y4 y5 y6 y7 y8
         have hbc := hbn
         clear hbn
         obtain ⟨y0, y1, y2, y3, y4, y5, y6, y7, y8⟩ := Hrow.out _ hbc)
      | (go_at_call 9
         (with_reducible refine (HL2.out _).mono ?_)
         rintro e w2 ⟨rfl, hb2⟩
         have hbn : Below W3.heap.size W3 w2 := by first | exact hbc.trans (hb2.mono hbc.size) | exact (Below.drew hbc).trans (hb2.mono hbc.size)
         clear hbc hb2 y0 y1 y2 y3 y4 y5 y6 y7 y8
         have hbc := hbn
         clear hbn
         obtain ⟨y0, y1, y2, y3, y4, y5, y6, y7, y8⟩ := Hrow.out _ hbc)
      | (go_at_call 9
         (with_reducible refine (HL3.out _).mono ?_)
         rintro e w2 ⟨rfl, hb2⟩
         have hbn : Below W3.heap.size W3 w2 := by first | exact hbc.trans (hb2.mono hbc.size) | exact (Below.drew hbc).trans (hb2.mono hbc.size)
         clear hbc hb2 y0 y1 y2 y3 y4 y5 y6 y7 y8
         have hbc := hbn
         clear hbn
         obtain ⟨y0, y1, y2, y3, y4, y5, y6, y7, y8⟩ := Hrow.out _ hbc)
      | (go_at_call 9
         (with_reducible refine (HL4.out _).mono ?_)
         rintro e w2 ⟨rfl, hb2⟩
         have hbn : Below W3.heap.size W3 w2 := by first | exact hbc.trans (hb2.mono hbc.size) | exact (Below.drew hbc).trans (hb2.mono hbc.size)
         clear hbc hb2 y0 y1 y2 y3 y4 y5 y6 y7 y8
         have hbc := hbn
         clear hbn
         obtain ⟨y0, y1, y2, y3, y4, y5, y6, y7, y8⟩ := Hrow.out _ hbc)
      | (go_at_call 10
         (with_reducible refine (HS.out _).mono ?_)
         rintro e w2 ⟨rfl, hb2⟩
         have hbn : Below W3.heap.size W3 w2 := by first | exact hbc.trans (hb2.mono hbc.size) | exact (Below.drew hbc).trans (hb2.mono hbc.size)
         clear hbc hb2 y0 y1 y2 y3 y4 y5 y6 y7 y8
         have hbc := hbn
         clear hbn
         obtain ⟨y0, y1, y2, y3, y4, y5, y6, y7, y8⟩ := Hrow.out _ hbc)
      | (go_at_call 11; refine (vwakes_any _).mono ?_; rintro e w9 ⟨rfl, hb9⟩))
    all_goals try (
      have z0 := cell_regrown y0
      have z1 := cell_regrown y1
      have z2 := cell_regrown y2
      have z3 := cell_regrown y3
      have z4 := cell_regrown y4
      have z5 := cell_regrown y5
      have z6 := cell_regrown y6
      have z7 := cell_regrown y7
      have z8 := cell_regrown y8
      refine wp_region_quiet_below (by kernel_rfl) (by kernel_rfl) ?_
      repeat (quiet_step (first | (with_reducible exact Calls.regrown_of (HL1.out _)) | (with_reducible exact Calls.regrown_of (HL2.out _)) | (with_reducible exact Calls.regrown_of (HL3.out _)) | (with_reducible exact Calls.regrown_of (HL4.out _)) | (with_reducible exact Calls.regrown_of (HS.out _))))
      refine wpQuiet_nil ?_
      intro _ hw'
      obtain ⟨⟨dq, osq⟩, hw''⟩ := hw'
      subst hw''
      have hbn := hbc.trans ((below_regrown _ dq osq).mono hbc.size)
      clear hbc z0 z1 z2 z3 z4 z5 z6 z7 z8 y0 y1 y2 y3 y4 y5 y6 y7 y8
      have hbc := hbn
      clear hbn
      obtain ⟨y0, y1, y2, y3, y4, y5, y6, y7, y8⟩ := Hrow.out _ hbc)
    all_goals go_wp2_with (first
      | (go_at_call 8
         (with_reducible refine (HA.out _).mono ?_)
         rintro e w2 ⟨rfl, hb2⟩
         have hbn : Below W3.heap.size W3 w2 := by first | exact hbc.trans (hb2.mono hbc.size) | exact (Below.drew hbc).trans (hb2.mono hbc.size)
         clear hbc hb2 y0 y1 y2 y3 y4 y5 y6 y7 y8
         have hbc := hbn
         clear hbn
         obtain ⟨y0, y1, y2, y3, y4, y5, y6, y7, y8⟩ := Hrow.out _ hbc)
      | (go_at_call 8
         (with_reducible refine (HB.out _).mono ?_)
         rintro e w2 ⟨rfl, hb2⟩
         have hbn : Below W3.heap.size W3 w2 := by first | exact hbc.trans (hb2.mono hbc.size) | exact (Below.drew hbc).trans (hb2.mono hbc.size)
         clear hbc hb2 y0 y1 y2 y3 y4 y5 y6 y7 y8
         have hbc := hbn
         clear hbn
         obtain ⟨y0, y1, y2, y3, y4, y5, y6, y7, y8⟩ := Hrow.out _ hbc)
      | (go_at_call 8
         (with_reducible refine (HC.out _).mono ?_)
         rintro e w2 ⟨rfl, hb2⟩
         have hbn : Below W3.heap.size W3 w2 := by first | exact hbc.trans (hb2.mono hbc.size) | exact (Below.drew hbc).trans (hb2.mono hbc.size)
         clear hbc hb2 y0 y1 y2 y3 y4 y5 y6 y7 y8
         have hbc := hbn
         clear hbn
         obtain ⟨y0, y1, y2, y3, y4, y5, y6, y7, y8⟩ := Hrow.out _ hbc)
      | (go_at_call 9
         (with_reducible refine (HL1.out _).mono ?_)
         rintro e w2 ⟨rfl, hb2⟩
         have hbn : Below W3.heap.size W3 w2 := by first | exact hbc.trans (hb2.mono hbc.size) | exact (Below.drew hbc).trans (hb2.mono hbc.size)
         clear hbc hb2 y0 y1 y2 y3 y4 y5 y6 y7 y8
         have hbc := hbn
         clear hbn
         obtain ⟨y0, y1, y2, y3, y4, y5, y6, y7, y8⟩ := Hrow.out _ hbc)
      | (go_at_call 9
         (with_reducible refine (HL2.out _).mono ?_)
         rintro e w2 ⟨rfl, hb2⟩
         have hbn : Below W3.heap.size W3 w2 := by first | exact hbc.trans (hb2.mono hbc.size) | exact (Below.drew hbc).trans (hb2.mono hbc.size)
         clear hbc hb2 y0 y1 y2 y3 y4 y5 y6 y7 y8
         have hbc := hbn
         clear hbn
         obtain ⟨y0, y1, y2, y3, y4, y5, y6, y7, y8⟩ := Hrow.out _ hbc)
      | (go_at_call 9
         (with_reducible refine (HL3.out _).mono ?_)
         rintro e w2 ⟨rfl, hb2⟩
         have hbn : Below W3.heap.size W3 w2 := by first | exact hbc.trans (hb2.mono hbc.size) | exact (Below.drew hbc).trans (hb2.mono hbc.size)
         clear hbc hb2 y0 y1 y2 y3 y4 y5 y6 y7 y8
         have hbc := hbn
         clear hbn
         obtain ⟨y0, y1, y2, y3, y4, y5, y6, y7, y8⟩ := Hrow.out _ hbc)
      | (go_at_call 9
         (with_reducible refine (HL4.out _).mono ?_)
         rintro e w2 ⟨rfl, hb2⟩
         have hbn : Below W3.heap.size W3 w2 := by first | exact hbc.trans (hb2.mono hbc.size) | exact (Below.drew hbc).trans (hb2.mono hbc.size)
         clear hbc hb2 y0 y1 y2 y3 y4 y5 y6 y7 y8
         have hbc := hbn
         clear hbn
         obtain ⟨y0, y1, y2, y3, y4, y5, y6, y7, y8⟩ := Hrow.out _ hbc)
      | (go_at_call 10
         (with_reducible refine (HS.out _).mono ?_)
         rintro e w2 ⟨rfl, hb2⟩
         have hbn : Below W3.heap.size W3 w2 := by first | exact hbc.trans (hb2.mono hbc.size) | exact (Below.drew hbc).trans (hb2.mono hbc.size)
         clear hbc hb2 y0 y1 y2 y3 y4 y5 y6 y7 y8
         have hbc := hbn
         clear hbn
         obtain ⟨y0, y1, y2, y3, y4, y5, y6, y7, y8⟩ := Hrow.out _ hbc)
      | (go_at_call 11; refine (vwakes_any _).mono ?_; rintro e w9 ⟨rfl, hb9⟩))
    all_goals try go_ret
    all_goals first
      | exact ⟨rfl, hb3.trans ((hbc.trans (hb9.mono hbc.size)).mono (by omega))⟩
      | exact ⟨rfl, hb3.trans (hbc.mono (by omega))⟩
end Go.Proofs.YtpndhfnoppkmgaaDoor
