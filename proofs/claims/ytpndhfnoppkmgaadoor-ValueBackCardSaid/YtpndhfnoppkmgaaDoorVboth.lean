/-
  Two values' sum, and the greater one: the walks.
-/
import Derived.Test.YtpndhfnoppkmgaaDoorVtext
namespace Go.Proofs.YtpndhfnoppkmgaaDoor
open Go.RowKit
set_option maxRecDepth 100000
def zeroVa : Va := ⟨0, 0, ⟨#[]⟩⟩
def joinV (mk : Nat → Nat → Nat) (a b : Va) : Va × Int :=
  if chkVa a ≠ 0 then (zeroVa, chkVa a) else if chkVa b ≠ 0 then (zeroVa, chkVa b) else if a.k = 0 then (b, 0) else if a.k ≠ 1 ∨ b.k ≠ 1 then (zeroVa, 8) else (⟨1, mk a.x b.x, ⟨#[]⟩⟩, 0)
def JPost (mk : Nat → Nat → Nat) (a b : Va) (w : World) (e : Ending) (w' : World) : Prop :=
  e = .returned (.tuple #[(joinV mk a b).1.v, .int .i64 (joinV mk a b).2]) ∧ Below w.heap.size w w'
theorem size3 : (Tryd.prog.info? 24).map (·.size) = some 3 := by kernel_rfl
theorem val_one (k : Int) (x : Nat) (s : ByteArray) : (#[.int .i64 k, .float .f64 x, .string s] : Array Value).all (·.oneCell') = true := by simp [Value.oneCell']
theorem results_val {fn : Func} {c t : Nat} (h : fn.results = #[.cell c 24, .tmp t]) (tmps : Array Value) (w : World) (g : Nat) (k : Int) (x : Nat) (s : ByteArray) (n : Int)
    (hp : tmps.getD c undef = .pointer (some ⟨g, 0, none⟩)) (h5 : tmps.getD t undef = .int .i64 n) (hg : w.heap[g]? = some (.cells #[.int .i64 k, .float .f64 x, .string s] 24 (0, 0))) :
    (results fn tmps).run Tryd.prog w = .ok (.tuple #[.agg #[.int .i64 k, .float .f64 x, .string s], .int .i64 n]) w := by
  have hl := run_loadVar_row (P := Tryd.prog) w g 24 24 #[.int .i64 k, .float .f64 x, .string s] (0, 0) _ hg Tryd.underlying24 rfl size3
  have hp' : tmps[c]?.getD undef = .pointer (some ⟨g, 0, none⟩) := by simpa using hp
  have h5' : tmps[t]?.getD undef = .int .i64 n := by simpa using h5
  simp [results, h, hp', h5', asAddr, hl]
theorem chk_vals (a : Va) : chkVa a = 0 ∨ chkVa a = 8 ∨ chkVa a = 2 ∨ chkVa a = 15 := by
  unfold chkVa
  repeat' split
  all_goals simp
set_option maxHeartbeats 6400000 in
theorem Vboth_ADD (mk : Nat → Nat → Nat) (a b : Va) (w : World) (ha : a.x < 18446744073709551616) (hb : b.x < 18446744073709551616) (sa : a.s.size ≤ maxLen) (sb : b.s.size ≤ maxLen)
    (HM : ∀ w, Calls Tryd.prog 28 #[.float .f64 a.x, .float .f64 b.x] w fun e w' => e = .returned (.float .f64 (mk a.x b.x)) ∧ Below w.heap.size w w') :
    Calls Tryd.prog 27 #[a.v, b.v, .func (.func 28) #[] #[]] w (JPost mk a b w) := by
  have HC1 : Hid (∀ w, Calls Tryd.prog 12 #[a.v] w fun e w' => e = .returned (.int .i64 (chkVa a)) ∧ Below w.heap.size w w') := fun w => VCheck_any a w ha sa
  have HC2 : Hid (∀ w, Calls Tryd.prog 12 #[b.v] w fun e w' => e = .returned (.int .i64 (chkVa b)) ∧ Below w.heap.size w w') := fun w => VCheck_any b w hb sb
  have hv1 := chk_vals a
  have hv2 := chk_vals b
  have HP1 : Hid (∀ c, chkVa a = c → c ≠ 0 → ∀ w', Below w.heap.size w w' → JPost mk a b w (.returned (.tuple #[zeroVa.v, .int .i64 c])) w') := by
    rintro c rfl hc w' hb
    unfold JPost joinV
    rw [if_pos hc]
    exact ⟨rfl, hb⟩
  have HP2 : Hid (∀ c, chkVa a = 0 → chkVa b = c → c ≠ 0 → ∀ w', Below w.heap.size w w' → JPost mk a b w (.returned (.tuple #[zeroVa.v, .int .i64 c])) w') := by
    rintro c h1 rfl hc w' hb
    unfold JPost joinV
    rw [if_neg (fun h => h h1), if_pos hc]
    exact ⟨rfl, hb⟩
  have HP3 : Hid (chkVa a = 0 → chkVa b = 0 → a.k = 0 → ∀ w', Below w.heap.size w w' → JPost mk a b w (.returned (.tuple #[b.v, .int .i64 0])) w') := by
    rintro h1 h2 h3 w' hb
    unfold JPost joinV
    rw [if_neg (fun h => h h1), if_neg (fun h => h h2), if_pos h3]
    exact ⟨rfl, hb⟩
  have HP4 : Hid (chkVa a = 0 → chkVa b = 0 → a.k ≠ 0 → (a.k ≠ 1 ∨ b.k ≠ 1) → ∀ w', Below w.heap.size w w' → JPost mk a b w (.returned (.tuple #[zeroVa.v, .int .i64 8])) w') := by
    rintro h1 h2 h3 h4 w' hb
    unfold JPost joinV
    rw [if_neg (fun h => h h1), if_neg (fun h => h h2), if_neg h3, if_pos h4]
    exact ⟨rfl, hb⟩
  have HP5 : Hid (chkVa a = 0 → chkVa b = 0 → a.k = 1 → b.k = 1 → ∀ w', Below w.heap.size w w' → JPost mk a b w (.returned (.tuple #[.agg #[.int .i64 1, .float .f64 (mk a.x b.x), .string ⟨#[]⟩], .int .i64 0])) w') := by
    rintro h1 h2 h3 h4 w' hb
    unfold JPost joinV
    rw [if_neg (fun h => h h1), if_neg (fun h => h h2), if_neg (by omega), if_neg (by omega)]
    exact ⟨rfl, hb⟩
  obtain ⟨c1, hc1⟩ : ∃ c, chkVa a = c := ⟨_, rfl⟩
  obtain ⟨c2, hc2⟩ : ∃ c, chkVa b = c := ⟨_, rfl⟩
  obtain ⟨J, hJ⟩ : ∃ J, JPost mk a b w = J := ⟨_, rfl⟩
  obtain ⟨k1, x1, s1⟩ := a
  obtain ⟨k2, x2, s2⟩ := b
  rw [hc1] at HC1 hv1
  rw [hc2] at HC2 hv2
  rw [hJ] at HP1 HP2 HP3 HP4 HP5 ⊢
  rw [hc1] at HP1 HP2 HP3 HP4 HP5
  rw [hc2] at HP2 HP3 HP4 HP5
  obtain ⟨y, hy⟩ : ∃ y, mk x1 x2 = y := ⟨_, rfl⟩
  unfold zeroVa at HP1 HP2 HP4
  unfold Va.v at HP1 HP2 HP3 HP4
  unfold Va.v at HC1 HC2 ⊢
  dsimp only at HP1 HP2 HP3 HP4 HP5 HC1 HC2 HM sa sb ⊢
  rw [hy] at HP5 HM
  have HMk := Lib.hid HM
  have hst := run_store_float
  clear hc1 hc2 hJ hy HM
  obtain ⟨W3, hW3⟩ : ∃ W3, ((((w.alloc (.cells #[.int .i64 k1, .float .f64 x1, .string s1] 24)).alloc (.cells #[.int .i64 k2, .float .f64 x2, .string s2] 24)).alloc (.cells #[.int .i64 0, .float .f64 0, .string ⟨#[]⟩] 24)).alloc (.cells #[.int .i64 k1, .float .f64 x1, .string s1, .int .i64 k2, .float .f64 x2, .string s2] 24)) = W3 := ⟨_, rfl⟩
  have hb3 : Below w.heap.size w W3 := by rw [← hW3]; exact ((two_below _ _ _).alloc (by simp <;> omega) _).alloc (by simp <;> omega) _
  have hz3 : W3.heap.size = w.heap.size + 4 := by rw [← hW3]; simp
  have h0 : W3.heap[w.heap.size]? = some (.cells #[.int .i64 k1, .float .f64 x1, .string s1] 24 (0, 0)) := by
    rw [← hW3, Below.heap_alloc _ _ _ (by simp; omega), Below.heap_alloc _ _ _ (by simp; omega), Below.heap_alloc _ _ _ (by simp)]
    exact heap_alloc_new w _
  have h1 : W3.heap[w.heap.size + 1]? = some (.cells #[.int .i64 k2, .float .f64 x2, .string s2] 24 (0, 0)) := by
    rw [← hW3, Below.heap_alloc _ _ _ (by simp <;> omega), Below.heap_alloc _ _ _ (by simp)]
    exact heap_alloc2_new w _ _
  have h2 : W3.heap[w.heap.size + 1 + 1]? = some (.cells #[.int .i64 0, .float .f64 0, .string ⟨#[]⟩] 24 (0, 0)) := by
    rw [← hW3, Below.heap_alloc _ _ _ (by simp)]
    have := heap_alloc_new ((w.alloc (.cells #[.int .i64 k1, .float .f64 x1, .string s1] 24)).alloc (.cells #[.int .i64 k2, .float .f64 x2, .string s2] 24)) (.cells #[.int .i64 0, .float .f64 0, .string ⟨#[]⟩] 24)
    simpa using this
  have h3 : W3.heap[w.heap.size + 1 + 1 + 1]? = some (.cells #[.int .i64 k1, .float .f64 x1, .string s1, .int .i64 k2, .float .f64 x2, .string s2] 24 (0, 0)) := by
    rw [← hW3]
    have := heap_alloc_new (((w.alloc (.cells #[.int .i64 k1, .float .f64 x1, .string s1] 24)).alloc (.cells #[.int .i64 k2, .float .f64 x2, .string s2] 24)).alloc (.cells #[.int .i64 0, .float .f64 0, .string ⟨#[]⟩] 24)) (.cells #[.int .i64 k1, .float .f64 x1, .string s1, .int .i64 k2, .float .f64 x2, .string s2] 24)
    simpa using this
  have Hrow : Hid (∀ w' : World, Below W3.heap.size W3 w' → w'.cell? ⟨w.heap.size, 0, none⟩ = some (.int .i64 k1) ∧ w'.cell? ⟨w.heap.size, 1, none⟩ = some (.float .f64 x1) ∧ w'.cell? ⟨w.heap.size, 2, none⟩ = some (.string s1) ∧
      w'.cell? ⟨w.heap.size + 1, 0, none⟩ = some (.int .i64 k2) ∧ w'.cell? ⟨w.heap.size + 1, 1, none⟩ = some (.float .f64 x2) ∧ w'.cell? ⟨w.heap.size + 1, 2, none⟩ = some (.string s2)) := fun w' hb => by
    have g0 := (hb.block _ (by omega)).trans h0
    have g1 := (hb.block _ (by omega)).trans h1
    exact ⟨cell_of_row _ _ _ _ _ _ g0, cell_of_row _ _ _ _ _ _ g0, cell_of_row _ _ _ _ _ _ g0, cell_of_row _ _ _ _ _ _ g1, cell_of_row _ _ _ _ _ _ g1, cell_of_row _ _ _ _ _ _ g1⟩
  have Hrowl : Hid (∀ w' : World, Below W3.heap.size W3 w' → w'.cell? ⟨w.heap.size + 1 + 1 + 1, 0, none⟩ = some (.int .i64 k1) ∧ w'.cell? ⟨w.heap.size + 1 + 1 + 1, 1, none⟩ = some (.float .f64 x1) ∧ w'.cell? ⟨w.heap.size + 1 + 1 + 1, 2, none⟩ = some (.string s1) ∧
      w'.cell? ⟨w.heap.size + 1 + 1 + 1, 3, none⟩ = some (.int .i64 k2) ∧ w'.cell? ⟨w.heap.size + 1 + 1 + 1, 4, none⟩ = some (.float .f64 x2) ∧ w'.cell? ⟨w.heap.size + 1 + 1 + 1, 5, none⟩ = some (.string s2)) := fun w' hb => by
    have g0 := (hb.block _ (by omega)).trans h3
    exact ⟨cell_of_row _ _ _ _ _ _ g0, cell_of_row _ _ _ _ _ _ g0, cell_of_row _ _ _ _ _ _ g0, cell_of_row _ _ _ _ _ _ g0, cell_of_row _ _ _ _ _ _ g0, cell_of_row _ _ _ _ _ _ g0⟩
  have Hres : Hid (∀ w' : World, Below W3.heap.size W3 w' → w'.heap[w.heap.size + 1 + 1]? = some (.cells #[.int .i64 0, .float .f64 0, .string ⟨#[]⟩] 24 (0, 0))) := fun w' hb => (hb.block _ (by omega)).trans h2
  have HW3 := Lib.hid hW3
  clear h0 h1 h2 h3 hW3
  go_enter Tryd.func27, Tryd.ntmps27
  go_wp2_with fail
  rw [HW3.out]
  go_loopg [9, 10, 15] 2 (fun g _ _ s15 wr => ∃ i : Nat, i + g = 2 ∧ s15 = .int .i64 i ∧ (0 < i → c1 = 0) ∧ (1 < i → c2 = 0) ∧ Below W3.heap.size W3 wr)
  case atStart => exact ⟨0, by omega, rfl, fun h => by omega, fun h => by omega, Below.refl _ _⟩
  case round =>
    obtain ⟨i, hig, rfl, hi1, hi2, hbc⟩ := hrel
    have Hig := Lib.hid hig
    have hzr : w.heap.size + 4 ≤ wr.heap.size := by have := hbc.size; omega
    obtain ⟨z0, z1, z2, z3, z4, z5⟩ := Hrowl.out _ hbc
    have hi : i = 0 ∨ i = 1 ∨ i = 2 := by omega
    clear hig
    rcases hi with rfl | rfl | rfl
    · rcases hv1 with h | hv1
      · rw [h] at HC1
        have H := Lib.hid h
        clear h
        go_wp2_with (go_at_call 12
                     (with_reducible refine (HC1.out _).mono ?_)
                     rintro e w5 ⟨rfl, hb5⟩
                     have hbn : Below W3.heap.size W3 w5 := hbc.trans ((((Below.refl _ _).alloc (Nat.le_refl _) _).trans (hb5.mono (by simp))).mono hbc.size)
                     clear z0 z1 z2 z3 z4 z5)
        go_roundg (gk - 1)
        case rel => exact ⟨1, by have := Hig.out; omega, by go_num, fun _ => H.out, fun h => by omega, hbn⟩
        case measure => have := Hig.out; omega
      · rcases hv1 with h | h | h
        all_goals
          rw [h] at HC1 HP1
          clear h
          go_wp2_with (first
            | (go_at_call 12
               (with_reducible refine (HC1.out _).mono ?_)
               rintro e w5 ⟨rfl, hb5⟩
               have hbn : Below W3.heap.size W3 w5 := hbc.trans ((((Below.refl _ _).alloc (Nat.le_refl _) _).trans (hb5.mono (by simp))).mono hbc.size)
               clear z0 z1 z2 z3 z4 z5)
            | (refine wpList_store_row rfl 24 (.tmp 6) _ rfl (w.heap.size + 1 + 1) #[.int .i64 0, .float .f64 0, .string ⟨#[]⟩] rfl rfl 24 _ (Hres.out _ hbn) size3 rfl (val_one _ _ _) ?_))
          refine bodyPost_ret (results_val Tryd.results27 _ _ (w.heap.size + 1 + 1) _ _ _ _ rfl rfl (setRow_heap _ _ _ _ _ _ (Hres.out _ hbn))) rfl ?_
          exact HP1.out _ rfl (by decide) _ (below_setRow (hb3.trans (hbn.mono (by omega))) (by omega) _)
    · rcases hv2 with h | hv2
      · rw [h] at HC2
        have H := Lib.hid h
        clear h
        go_wp2_with (go_at_call 12
                     (with_reducible refine (HC2.out _).mono ?_)
                     rintro e w5 ⟨rfl, hb5⟩
                     have hbn : Below W3.heap.size W3 w5 := hbc.trans ((((Below.refl _ _).alloc (Nat.le_refl _) _).trans (hb5.mono (by simp))).mono hbc.size)
                     clear z0 z1 z2 z3 z4 z5)
        go_roundg (gk - 1)
        case rel => exact ⟨2, by have := Hig.out; omega, by go_num, fun _ => hi1 (by omega), fun _ => H.out, hbn⟩
        case measure => have := Hig.out; omega
      · rcases hv2 with h | h | h
        all_goals
          rw [h] at HC2 HP2
          clear h
          go_wp2_with (first
            | (go_at_call 12
               (with_reducible refine (HC2.out _).mono ?_)
               rintro e w5 ⟨rfl, hb5⟩
               have hbn : Below W3.heap.size W3 w5 := hbc.trans ((((Below.refl _ _).alloc (Nat.le_refl _) _).trans (hb5.mono (by simp))).mono hbc.size)
               clear z0 z1 z2 z3 z4 z5)
            | (refine wpList_store_row rfl 24 (.tmp 6) _ rfl (w.heap.size + 1 + 1) #[.int .i64 0, .float .f64 0, .string ⟨#[]⟩] rfl rfl 24 _ (Hres.out _ hbn) size3 rfl (val_one _ _ _) ?_))
          refine bodyPost_ret (results_val Tryd.results27 _ _ (w.heap.size + 1 + 1) _ _ _ _ rfl rfl (setRow_heap _ _ _ _ _ _ (Hres.out _ hbn))) rfl ?_
          exact HP2.out _ (hi1 (by omega)) rfl (by decide) _ (below_setRow (hb3.trans (hbn.mono (by omega))) (by omega) _)
    · have H1 := Lib.hid (hi1 (by omega))
      have H2 := Lib.hid (hi2 (by omega))
      clear hi1 hi2 z0 z1 z2 z3 z4 z5
      obtain ⟨z0, z1, z2, z3, z4, z5⟩ := Hrow.out _ hbc
      rcases Decidable.em (k1 = 0) with e0 | e0
      · have HQ := Lib.hid (HP3.out H1.out H2.out e0)
        clear HP1 HP2 HP3 HP4 HP5
        subst e0
        go_wp2_with (refine wpList_store_row rfl 24 (.tmp 6) _ rfl (w.heap.size + 1 + 1) #[.int .i64 k2, .float .f64 x2, .string s2] rfl rfl 24 _ (Hres.out _ hbc) size3 rfl (val_one _ _ _) ?_)
        refine bodyPost_ret (results_val Tryd.results27 _ _ (w.heap.size + 1 + 1) _ _ _ _ rfl rfl (setRow_heap _ _ _ _ _ _ (Hres.out _ hbc))) rfl ?_
        exact HQ.out _ (below_setRow (hb3.trans (hbc.mono (by omega))) (by omega) _)
      rcases Decidable.em (k1 = 1 ∧ k2 = 1) with e1 | e1
      · have HQ := Lib.hid (HP5.out H1.out H2.out e1.1 e1.2)
        obtain ⟨e1, e2⟩ := e1
        clear HP1 HP2 HP3 HP4 HP5
        subst e1 e2
        go_wp2_with (first
          | ((with_reducible refine (HMk.out _).mono ?_); rintro e w5 ⟨rfl, hb5⟩
             have hbn : Below W3.heap.size W3 w5 := hbc.trans (hb5.mono hbc.size))
          | (refine wpList_store_row rfl 24 (.tmp 6) _ rfl (w.heap.size + 1 + 1) #[.int .i64 1, .float .f64 y, .string ⟨#[]⟩] rfl rfl 24 _ (Hres.out _ hbn) size3 rfl (val_one _ _ _) ?_))
        refine bodyPost_ret (results_val Tryd.results27 _ _ (w.heap.size + 1 + 1) _ _ _ _ rfl rfl (setRow_heap _ _ _ _ _ _ (Hres.out _ hbn))) rfl ?_
        exact HQ.out _ (below_setRow (hb3.trans (hbn.mono (by omega))) (by omega) _)
      · have HQ := Lib.hid (HP4.out H1.out H2.out e0 (Decidable.byCases (fun e : k1 = 1 => .inr fun e' => e1 ⟨e, e'⟩) (fun e => .inl e)))
        clear HP1 HP2 HP3 HP4 HP5
        have e00 : (k1 == 0) = false := by simpa using e0
        rcases Decidable.em (k1 = 1) with e2 | e2
        · have e3 : ¬ k2 = 1 := fun e => e1 ⟨e2, e⟩
          subst e2
          go_wp2_with (refine wpList_store_row rfl 24 (.tmp 6) _ rfl (w.heap.size + 1 + 1) #[.int .i64 0, .float .f64 0, .string ⟨#[]⟩] rfl rfl 24 _ (Hres.out _ hbc) size3 rfl (val_one _ _ _) ?_)
          refine bodyPost_ret (results_val Tryd.results27 _ _ (w.heap.size + 1 + 1) _ _ _ _ rfl rfl (setRow_heap _ _ _ _ _ _ (Hres.out _ hbc))) rfl ?_
          exact HQ.out _ (below_setRow (hb3.trans (hbc.mono (by omega))) (by omega) _)
        · go_wp2_with (refine wpList_store_row rfl 24 (.tmp 6) _ rfl (w.heap.size + 1 + 1) #[.int .i64 0, .float .f64 0, .string ⟨#[]⟩] rfl rfl 24 _ (Hres.out _ hbc) size3 rfl (val_one _ _ _) ?_)
          refine bodyPost_ret (results_val Tryd.results27 _ _ (w.heap.size + 1 + 1) _ _ _ _ rfl rfl (setRow_heap _ _ _ _ _ _ (Hres.out _ hbc))) rfl ?_
          exact HQ.out _ (below_setRow (hb3.trans (hbc.mono (by omega))) (by omega) _)
set_option maxHeartbeats 6400000 in
theorem Vboth_MAX (mk : Nat → Nat → Nat) (a b : Va) (w : World) (ha : a.x < 18446744073709551616) (hb : b.x < 18446744073709551616) (sa : a.s.size ≤ maxLen) (sb : b.s.size ≤ maxLen)
    (HM : ∀ w, Calls Tryd.prog 29 #[.float .f64 a.x, .float .f64 b.x] w fun e w' => e = .returned (.float .f64 (mk a.x b.x)) ∧ Below w.heap.size w w') :
    Calls Tryd.prog 27 #[a.v, b.v, .func (.func 29) #[] #[]] w (JPost mk a b w) := by
  have HC1 : Hid (∀ w, Calls Tryd.prog 12 #[a.v] w fun e w' => e = .returned (.int .i64 (chkVa a)) ∧ Below w.heap.size w w') := fun w => VCheck_any a w ha sa
  have HC2 : Hid (∀ w, Calls Tryd.prog 12 #[b.v] w fun e w' => e = .returned (.int .i64 (chkVa b)) ∧ Below w.heap.size w w') := fun w => VCheck_any b w hb sb
  have hv1 := chk_vals a
  have hv2 := chk_vals b
  have HP1 : Hid (∀ c, chkVa a = c → c ≠ 0 → ∀ w', Below w.heap.size w w' → JPost mk a b w (.returned (.tuple #[zeroVa.v, .int .i64 c])) w') := by
    rintro c rfl hc w' hb
    unfold JPost joinV
    rw [if_pos hc]
    exact ⟨rfl, hb⟩
  have HP2 : Hid (∀ c, chkVa a = 0 → chkVa b = c → c ≠ 0 → ∀ w', Below w.heap.size w w' → JPost mk a b w (.returned (.tuple #[zeroVa.v, .int .i64 c])) w') := by
    rintro c h1 rfl hc w' hb
    unfold JPost joinV
    rw [if_neg (fun h => h h1), if_pos hc]
    exact ⟨rfl, hb⟩
  have HP3 : Hid (chkVa a = 0 → chkVa b = 0 → a.k = 0 → ∀ w', Below w.heap.size w w' → JPost mk a b w (.returned (.tuple #[b.v, .int .i64 0])) w') := by
    rintro h1 h2 h3 w' hb
    unfold JPost joinV
    rw [if_neg (fun h => h h1), if_neg (fun h => h h2), if_pos h3]
    exact ⟨rfl, hb⟩
  have HP4 : Hid (chkVa a = 0 → chkVa b = 0 → a.k ≠ 0 → (a.k ≠ 1 ∨ b.k ≠ 1) → ∀ w', Below w.heap.size w w' → JPost mk a b w (.returned (.tuple #[zeroVa.v, .int .i64 8])) w') := by
    rintro h1 h2 h3 h4 w' hb
    unfold JPost joinV
    rw [if_neg (fun h => h h1), if_neg (fun h => h h2), if_neg h3, if_pos h4]
    exact ⟨rfl, hb⟩
  have HP5 : Hid (chkVa a = 0 → chkVa b = 0 → a.k = 1 → b.k = 1 → ∀ w', Below w.heap.size w w' → JPost mk a b w (.returned (.tuple #[.agg #[.int .i64 1, .float .f64 (mk a.x b.x), .string ⟨#[]⟩], .int .i64 0])) w') := by
    rintro h1 h2 h3 h4 w' hb
    unfold JPost joinV
    rw [if_neg (fun h => h h1), if_neg (fun h => h h2), if_neg (by omega), if_neg (by omega)]
    exact ⟨rfl, hb⟩
  obtain ⟨c1, hc1⟩ : ∃ c, chkVa a = c := ⟨_, rfl⟩
  obtain ⟨c2, hc2⟩ : ∃ c, chkVa b = c := ⟨_, rfl⟩
  obtain ⟨J, hJ⟩ : ∃ J, JPost mk a b w = J := ⟨_, rfl⟩
  obtain ⟨k1, x1, s1⟩ := a
  obtain ⟨k2, x2, s2⟩ := b
  rw [hc1] at HC1 hv1
  rw [hc2] at HC2 hv2
  rw [hJ] at HP1 HP2 HP3 HP4 HP5 ⊢
  rw [hc1] at HP1 HP2 HP3 HP4 HP5
  rw [hc2] at HP2 HP3 HP4 HP5
  obtain ⟨y, hy⟩ : ∃ y, mk x1 x2 = y := ⟨_, rfl⟩
  unfold zeroVa at HP1 HP2 HP4
  unfold Va.v at HP1 HP2 HP3 HP4
  unfold Va.v at HC1 HC2 ⊢
  dsimp only at HP1 HP2 HP3 HP4 HP5 HC1 HC2 HM sa sb ⊢
  rw [hy] at HP5 HM
  have HMk := Lib.hid HM
  have hst := run_store_float
  clear hc1 hc2 hJ hy HM
  obtain ⟨W3, hW3⟩ : ∃ W3, ((((w.alloc (.cells #[.int .i64 k1, .float .f64 x1, .string s1] 24)).alloc (.cells #[.int .i64 k2, .float .f64 x2, .string s2] 24)).alloc (.cells #[.int .i64 0, .float .f64 0, .string ⟨#[]⟩] 24)).alloc (.cells #[.int .i64 k1, .float .f64 x1, .string s1, .int .i64 k2, .float .f64 x2, .string s2] 24)) = W3 := ⟨_, rfl⟩
  have hb3 : Below w.heap.size w W3 := by rw [← hW3]; exact ((two_below _ _ _).alloc (by simp <;> omega) _).alloc (by simp <;> omega) _
  have hz3 : W3.heap.size = w.heap.size + 4 := by rw [← hW3]; simp
  have h0 : W3.heap[w.heap.size]? = some (.cells #[.int .i64 k1, .float .f64 x1, .string s1] 24 (0, 0)) := by
    rw [← hW3, Below.heap_alloc _ _ _ (by simp; omega), Below.heap_alloc _ _ _ (by simp; omega), Below.heap_alloc _ _ _ (by simp)]
    exact heap_alloc_new w _
  have h1 : W3.heap[w.heap.size + 1]? = some (.cells #[.int .i64 k2, .float .f64 x2, .string s2] 24 (0, 0)) := by
    rw [← hW3, Below.heap_alloc _ _ _ (by simp <;> omega), Below.heap_alloc _ _ _ (by simp)]
    exact heap_alloc2_new w _ _
  have h2 : W3.heap[w.heap.size + 1 + 1]? = some (.cells #[.int .i64 0, .float .f64 0, .string ⟨#[]⟩] 24 (0, 0)) := by
    rw [← hW3, Below.heap_alloc _ _ _ (by simp)]
    have := heap_alloc_new ((w.alloc (.cells #[.int .i64 k1, .float .f64 x1, .string s1] 24)).alloc (.cells #[.int .i64 k2, .float .f64 x2, .string s2] 24)) (.cells #[.int .i64 0, .float .f64 0, .string ⟨#[]⟩] 24)
    simpa using this
  have h3 : W3.heap[w.heap.size + 1 + 1 + 1]? = some (.cells #[.int .i64 k1, .float .f64 x1, .string s1, .int .i64 k2, .float .f64 x2, .string s2] 24 (0, 0)) := by
    rw [← hW3]
    have := heap_alloc_new (((w.alloc (.cells #[.int .i64 k1, .float .f64 x1, .string s1] 24)).alloc (.cells #[.int .i64 k2, .float .f64 x2, .string s2] 24)).alloc (.cells #[.int .i64 0, .float .f64 0, .string ⟨#[]⟩] 24)) (.cells #[.int .i64 k1, .float .f64 x1, .string s1, .int .i64 k2, .float .f64 x2, .string s2] 24)
    simpa using this
  have Hrow : Hid (∀ w' : World, Below W3.heap.size W3 w' → w'.cell? ⟨w.heap.size, 0, none⟩ = some (.int .i64 k1) ∧ w'.cell? ⟨w.heap.size, 1, none⟩ = some (.float .f64 x1) ∧ w'.cell? ⟨w.heap.size, 2, none⟩ = some (.string s1) ∧
      w'.cell? ⟨w.heap.size + 1, 0, none⟩ = some (.int .i64 k2) ∧ w'.cell? ⟨w.heap.size + 1, 1, none⟩ = some (.float .f64 x2) ∧ w'.cell? ⟨w.heap.size + 1, 2, none⟩ = some (.string s2)) := fun w' hb => by
    have g0 := (hb.block _ (by omega)).trans h0
    have g1 := (hb.block _ (by omega)).trans h1
    exact ⟨cell_of_row _ _ _ _ _ _ g0, cell_of_row _ _ _ _ _ _ g0, cell_of_row _ _ _ _ _ _ g0, cell_of_row _ _ _ _ _ _ g1, cell_of_row _ _ _ _ _ _ g1, cell_of_row _ _ _ _ _ _ g1⟩
  have Hrowl : Hid (∀ w' : World, Below W3.heap.size W3 w' → w'.cell? ⟨w.heap.size + 1 + 1 + 1, 0, none⟩ = some (.int .i64 k1) ∧ w'.cell? ⟨w.heap.size + 1 + 1 + 1, 1, none⟩ = some (.float .f64 x1) ∧ w'.cell? ⟨w.heap.size + 1 + 1 + 1, 2, none⟩ = some (.string s1) ∧
      w'.cell? ⟨w.heap.size + 1 + 1 + 1, 3, none⟩ = some (.int .i64 k2) ∧ w'.cell? ⟨w.heap.size + 1 + 1 + 1, 4, none⟩ = some (.float .f64 x2) ∧ w'.cell? ⟨w.heap.size + 1 + 1 + 1, 5, none⟩ = some (.string s2)) := fun w' hb => by
    have g0 := (hb.block _ (by omega)).trans h3
    exact ⟨cell_of_row _ _ _ _ _ _ g0, cell_of_row _ _ _ _ _ _ g0, cell_of_row _ _ _ _ _ _ g0, cell_of_row _ _ _ _ _ _ g0, cell_of_row _ _ _ _ _ _ g0, cell_of_row _ _ _ _ _ _ g0⟩
  have Hres : Hid (∀ w' : World, Below W3.heap.size W3 w' → w'.heap[w.heap.size + 1 + 1]? = some (.cells #[.int .i64 0, .float .f64 0, .string ⟨#[]⟩] 24 (0, 0))) := fun w' hb => (hb.block _ (by omega)).trans h2
  have HW3 := Lib.hid hW3
  clear h0 h1 h2 h3 hW3
  go_enter Tryd.func27, Tryd.ntmps27
  go_wp2_with fail
  rw [HW3.out]
  go_loopg [9, 10, 15] 2 (fun g _ _ s15 wr => ∃ i : Nat, i + g = 2 ∧ s15 = .int .i64 i ∧ (0 < i → c1 = 0) ∧ (1 < i → c2 = 0) ∧ Below W3.heap.size W3 wr)
  case atStart => exact ⟨0, by omega, rfl, fun h => by omega, fun h => by omega, Below.refl _ _⟩
  case round =>
    obtain ⟨i, hig, rfl, hi1, hi2, hbc⟩ := hrel
    have Hig := Lib.hid hig
    have hzr : w.heap.size + 4 ≤ wr.heap.size := by have := hbc.size; omega
    obtain ⟨z0, z1, z2, z3, z4, z5⟩ := Hrowl.out _ hbc
    have hi : i = 0 ∨ i = 1 ∨ i = 2 := by omega
    clear hig
    rcases hi with rfl | rfl | rfl
    · rcases hv1 with h | hv1
      · rw [h] at HC1
        have H := Lib.hid h
        clear h
        go_wp2_with (go_at_call 12
                     (with_reducible refine (HC1.out _).mono ?_)
                     rintro e w5 ⟨rfl, hb5⟩
                     have hbn : Below W3.heap.size W3 w5 := hbc.trans ((((Below.refl _ _).alloc (Nat.le_refl _) _).trans (hb5.mono (by simp))).mono hbc.size)
                     clear z0 z1 z2 z3 z4 z5)
        go_roundg (gk - 1)
        case rel => exact ⟨1, by have := Hig.out; omega, by go_num, fun _ => H.out, fun h => by omega, hbn⟩
        case measure => have := Hig.out; omega
      · rcases hv1 with h | h | h
        all_goals
          rw [h] at HC1 HP1
          clear h
          go_wp2_with (first
            | (go_at_call 12
               (with_reducible refine (HC1.out _).mono ?_)
               rintro e w5 ⟨rfl, hb5⟩
               have hbn : Below W3.heap.size W3 w5 := hbc.trans ((((Below.refl _ _).alloc (Nat.le_refl _) _).trans (hb5.mono (by simp))).mono hbc.size)
               clear z0 z1 z2 z3 z4 z5)
            | (refine wpList_store_row rfl 24 (.tmp 6) _ rfl (w.heap.size + 1 + 1) #[.int .i64 0, .float .f64 0, .string ⟨#[]⟩] rfl rfl 24 _ (Hres.out _ hbn) size3 rfl (val_one _ _ _) ?_))
          refine bodyPost_ret (results_val Tryd.results27 _ _ (w.heap.size + 1 + 1) _ _ _ _ rfl rfl (setRow_heap _ _ _ _ _ _ (Hres.out _ hbn))) rfl ?_
          exact HP1.out _ rfl (by decide) _ (below_setRow (hb3.trans (hbn.mono (by omega))) (by omega) _)
    · rcases hv2 with h | hv2
      · rw [h] at HC2
        have H := Lib.hid h
        clear h
        go_wp2_with (go_at_call 12
                     (with_reducible refine (HC2.out _).mono ?_)
                     rintro e w5 ⟨rfl, hb5⟩
                     have hbn : Below W3.heap.size W3 w5 := hbc.trans ((((Below.refl _ _).alloc (Nat.le_refl _) _).trans (hb5.mono (by simp))).mono hbc.size)
                     clear z0 z1 z2 z3 z4 z5)
        go_roundg (gk - 1)
        case rel => exact ⟨2, by have := Hig.out; omega, by go_num, fun _ => hi1 (by omega), fun _ => H.out, hbn⟩
        case measure => have := Hig.out; omega
      · rcases hv2 with h | h | h
        all_goals
          rw [h] at HC2 HP2
          clear h
          go_wp2_with (first
            | (go_at_call 12
               (with_reducible refine (HC2.out _).mono ?_)
               rintro e w5 ⟨rfl, hb5⟩
               have hbn : Below W3.heap.size W3 w5 := hbc.trans ((((Below.refl _ _).alloc (Nat.le_refl _) _).trans (hb5.mono (by simp))).mono hbc.size)
               clear z0 z1 z2 z3 z4 z5)
            | (refine wpList_store_row rfl 24 (.tmp 6) _ rfl (w.heap.size + 1 + 1) #[.int .i64 0, .float .f64 0, .string ⟨#[]⟩] rfl rfl 24 _ (Hres.out _ hbn) size3 rfl (val_one _ _ _) ?_))
          refine bodyPost_ret (results_val Tryd.results27 _ _ (w.heap.size + 1 + 1) _ _ _ _ rfl rfl (setRow_heap _ _ _ _ _ _ (Hres.out _ hbn))) rfl ?_
          exact HP2.out _ (hi1 (by omega)) rfl (by decide) _ (below_setRow (hb3.trans (hbn.mono (by omega))) (by omega) _)
    · have H1 := Lib.hid (hi1 (by omega))
      have H2 := Lib.hid (hi2 (by omega))
      clear hi1 hi2 z0 z1 z2 z3 z4 z5
      obtain ⟨z0, z1, z2, z3, z4, z5⟩ := Hrow.out _ hbc
      rcases Decidable.em (k1 = 0) with e0 | e0
      · have HQ := Lib.hid (HP3.out H1.out H2.out e0)
        clear HP1 HP2 HP3 HP4 HP5
        subst e0
        go_wp2_with (refine wpList_store_row rfl 24 (.tmp 6) _ rfl (w.heap.size + 1 + 1) #[.int .i64 k2, .float .f64 x2, .string s2] rfl rfl 24 _ (Hres.out _ hbc) size3 rfl (val_one _ _ _) ?_)
        refine bodyPost_ret (results_val Tryd.results27 _ _ (w.heap.size + 1 + 1) _ _ _ _ rfl rfl (setRow_heap _ _ _ _ _ _ (Hres.out _ hbc))) rfl ?_
        exact HQ.out _ (below_setRow (hb3.trans (hbc.mono (by omega))) (by omega) _)
      rcases Decidable.em (k1 = 1 ∧ k2 = 1) with e1 | e1
      · have HQ := Lib.hid (HP5.out H1.out H2.out e1.1 e1.2)
        obtain ⟨e1, e2⟩ := e1
        clear HP1 HP2 HP3 HP4 HP5
        subst e1 e2
        go_wp2_with (first
          | ((with_reducible refine (HMk.out _).mono ?_); rintro e w5 ⟨rfl, hb5⟩
             have hbn : Below W3.heap.size W3 w5 := hbc.trans (hb5.mono hbc.size))
          | (refine wpList_store_row rfl 24 (.tmp 6) _ rfl (w.heap.size + 1 + 1) #[.int .i64 1, .float .f64 y, .string ⟨#[]⟩] rfl rfl 24 _ (Hres.out _ hbn) size3 rfl (val_one _ _ _) ?_))
        refine bodyPost_ret (results_val Tryd.results27 _ _ (w.heap.size + 1 + 1) _ _ _ _ rfl rfl (setRow_heap _ _ _ _ _ _ (Hres.out _ hbn))) rfl ?_
        exact HQ.out _ (below_setRow (hb3.trans (hbn.mono (by omega))) (by omega) _)
      · have HQ := Lib.hid (HP4.out H1.out H2.out e0 (Decidable.byCases (fun e : k1 = 1 => .inr fun e' => e1 ⟨e, e'⟩) (fun e => .inl e)))
        clear HP1 HP2 HP3 HP4 HP5
        have e00 : (k1 == 0) = false := by simpa using e0
        rcases Decidable.em (k1 = 1) with e2 | e2
        · have e3 : ¬ k2 = 1 := fun e => e1 ⟨e2, e⟩
          subst e2
          go_wp2_with (refine wpList_store_row rfl 24 (.tmp 6) _ rfl (w.heap.size + 1 + 1) #[.int .i64 0, .float .f64 0, .string ⟨#[]⟩] rfl rfl 24 _ (Hres.out _ hbc) size3 rfl (val_one _ _ _) ?_)
          refine bodyPost_ret (results_val Tryd.results27 _ _ (w.heap.size + 1 + 1) _ _ _ _ rfl rfl (setRow_heap _ _ _ _ _ _ (Hres.out _ hbc))) rfl ?_
          exact HQ.out _ (below_setRow (hb3.trans (hbc.mono (by omega))) (by omega) _)
        · go_wp2_with (refine wpList_store_row rfl 24 (.tmp 6) _ rfl (w.heap.size + 1 + 1) #[.int .i64 0, .float .f64 0, .string ⟨#[]⟩] rfl rfl 24 _ (Hres.out _ hbc) size3 rfl (val_one _ _ _) ?_)
          refine bodyPost_ret (results_val Tryd.results27 _ _ (w.heap.size + 1 + 1) _ _ _ _ rfl rfl (setRow_heap _ _ _ _ _ _ (Hres.out _ hbc))) rfl ?_
          exact HQ.out _ (below_setRow (hb3.trans (hbc.mono (by omega))) (by omega) _)
end Go.Proofs.YtpndhfnoppkmgaaDoor
