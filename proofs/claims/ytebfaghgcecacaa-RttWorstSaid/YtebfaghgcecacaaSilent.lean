/-
  The walks of num.Less, pulse.Silent and pulse.Worst.
-/
import Derived.Test.YtebfaghgcecacaaRtts
namespace Go.Proofs.Ytebfaghgcecacaa
open Go.RowKit
/-- Does a mask have a bit? (As the walk spells it.) -/
def hasB (x : Int) (i : Nat) : Bool := bits .and .i64 (x / 2 ^ i) 1 == 1
set_option maxHeartbeats 400000 in
theorem Has_any (x : Int) (i : Nat) (w : World) (hi : i < 7) : Calls Try.prog 47 #[.int .i64 x, .int .i64 i] w fun e w' => e = .returned (.bool (hasB x i)) ∧ w = w' := by
  go_enter Try.func47, Try.ntmps47
  go_wp2_with fail
  go_ret
  exact ⟨rfl, rfl⟩
set_option maxHeartbeats 1600000 in
theorem Less_any (a b : Nat) (w : World) (ha : a < 18446744073709551616) (hb : b < 18446744073709551616) : Calls Try.prog 39 #[.float .f64 a, .float .f64 b] w fun e w' => e = .returned (.bool (lessB a b)) ∧ w = w' := by
  cases na : isNan a
  case true =>
    rw [less_nan b na]
    go_enter Try.func39, Try.ntmps39
    go_wp2_with (go_at_call 36; refine (IsNaN_any _ _).mono ?_; rintro e w1 ⟨rfl, rfl⟩)
    go_ret
    exact ⟨rfl, rfl⟩
  cases nb : isNan b
  case true =>
    rw [less_by_nan na nb]
    go_enter Try.func39, Try.ntmps39
    go_wp2_with (go_at_call 36; refine (IsNaN_any _ _).mono ?_; rintro e w1 ⟨rfl, rfl⟩)
    go_ret
    exact ⟨rfl, rfl⟩
  have he := cmp_eq a b
  have hl := cmp_lt a b
  rw [na, nb] at he hl
  simp only [Bool.not_false, Bool.true_and] at he hl
  by_cases h : rk a = rk b
  · rw [less_eq na nb h]
    rw [decide_eq_true h] at he
    clear hl h
    cases sa : sg a
    all_goals
      try simp only [Bool.false_and, Bool.true_and]
      go_enter Try.func39, Try.ntmps39
      go_wp2_with (first | (go_at_call 36; refine (IsNaN_any _ _).mono ?_; rintro e w1 ⟨rfl, rfl⟩) | (go_at_call 60; refine (Signbit_any _ _ (by assumption)).mono ?_; rintro e w1 ⟨rfl, rfl⟩))
      go_ret
      exact ⟨rfl, rfl⟩
  · rw [less_ne na nb h]
    rw [decide_eq_false h] at he
    rw [← hl]
    clear hl h
    go_enter Try.func39, Try.ntmps39
    go_wp2_with (go_at_call 36; refine (IsNaN_any _ _).mono ?_; rintro e w1 ⟨rfl, rfl⟩)
    go_ret
    exact ⟨rfl, rfl⟩
/-- Who is silent, of the first k; who is doubted most, of the first k. -/
def sil (D : Nat → Nat) (x : Int) (above : Nat) : Nat → Nat
  | 0 => 0
  | k + 1 => sil D x above k + if (hasB x k && lessB above (D k)) = true then 2 ^ k else 0
def wst (D : Nat → Nat) (x : Int) : Nat → Int × Nat
  | 0 => (-1, 0)
  | k + 1 => if (hasB x k && (decide ((wst D x k).1 < 0) || lessB (wst D x k).2 (D k))) = true then ((k : Int), D k) else wst D x k
theorem sil_lt (D : Nat → Nat) (x : Int) (above k : Nat) : sil D x above k < 2 ^ k := by
  induction k with
  | zero => simp [sil]
  | succ k ih =>
    unfold sil
    rw [Nat.pow_succ]
    split <;> omega
theorem or_add : ∀ a : Nat, a < 64 → ∀ k : Nat, k < 7 → a < 2 ^ k → bits .or .i64 (a : Int) (wrap64 (2 ^ k)) = ((a + 2 ^ k : Nat) : Int) := by decide +kernel
theorem or_add' {a k : Nat} (hk : k < 7) (h : a < 2 ^ k) : bits .or .i64 (a : Int) (wrap64 (2 ^ k)) = ((a + 2 ^ k : Nat) : Int) := by
  have : 2 ^ k ≤ 2 ^ 6 := Nat.pow_le_pow_right (by omega) (by omega)
  exact or_add a (by omega) k hk h
theorem wst_bd (D : Nat → Nat) (x : Int) (hD : ∀ i, D i ≤ 9218868437227405312) (k : Nat) : -1 ≤ (wst D x k).1 ∧ (wst D x k).1 < k ∧ (wst D x k).2 ≤ 9218868437227405312 := by
  induction k with
  | zero => simp [wst]
  | succ k ih =>
    unfold wst
    split
    · exact ⟨by show -1 ≤ (k : Int); omega, by show (k : Int) < ((k + 1 : Nat) : Int); omega, hD k⟩
    · exact ⟨ih.1, by omega, ih.2.2⟩
def SilentPost (S : Nat → Int) (l : List (Nat × Nat)) (x : Int) (above : Nat) (w : World) (e : Ending) (w' : World) : Prop :=
  e = .returned (if allR l = true then .tuple #[.int .i64 (sil (Dd S l) x above 7 : Int), .int .i64 0] else .tuple #[.int .i64 0, .int .i64 1]) ∧ Below w.heap.size w w'
theorem index7 (D : Nat → Nat) {k : Nat} (h : k < 7) (w : World) : (Instr.index 62 (.agg (outA D 7)) (.int .i64 k)).run Try.prog w = .ok (.float .f64 (D k)) w := by
  have : k = 0 ∨ k = 1 ∨ k = 2 ∨ k = 3 ∨ k = 4 ∨ k = 5 ∨ k = 6 := by omega
  rcases this with rfl | rfl | rfl | rfl | rfl | rfl | rfl <;> rfl
theorem Dd_le (S : Nat → Int) (l : List (Nat × Nat)) (i : Nat) : Dd S l i ≤ 9218868437227405312 := doubt_le _ _ _
set_option maxRecDepth 100000 in
set_option maxHeartbeats 3200000 in
theorem Silent_any (S : Nat → Int) (hS : ∀ i, -9223372036854775808 ≤ S i ∧ S i ≤ 9223372036854775807) (A : Option Addr) (n cap B : Nat) (l : List (Nat × Nat)) (x : Int) (above : Nat) (w : World) (hy : RdRtts w B A n cap l) (hB : B ≤ w.heap.size)
    (ha : above < 18446744073709551616) :
    Calls Try.prog 15 #[.agg (ints7 S), .slice A n cap, .int .i64 x, .float .f64 above] w (SilentPost S l x above w) := by
  have HPo : Hid (∀ w', Below w.heap.size w w' → SilentPost S l x above w (.returned (if allR l = true then .tuple #[.int .i64 (sil (Dd S l) x above 7 : Int), .int .i64 0] else .tuple #[.int .i64 0, .int .i64 1])) w') := fun w' hb => ⟨rfl, hb⟩
  have HD : Hid (∀ W, RdRtts W B A n cap l → B ≤ W.heap.size → Calls Try.prog 38 #[.agg (ints7 S), .slice A n cap] W (DoubtsPost S l W)) := fun W h1 h2 => doubts_any S hS A n cap B l W h1 h2
  unfold DoubtsPost at HD
  have hyw : ∀ o, RdRtts (w.alloc o) B A n cap l := fun o => hy.below ((Below.refl _ _).alloc (Nat.le_refl _) _) hB
  have Hyw := Lib.hid hyw
  clear hyw
  have hst := run_store_float
  cases hr : allR l
  · rw [hr] at HPo HD
    simp only [Bool.false_eq_true, if_false] at HPo HD
    unfold ints7
    go_enter Try.func15, Try.ntmps15
    go_wp2_with fail
    refine (HD.out _ (Hyw.out _) (by simp; omega)).mono ?_
    rintro e w1 ⟨rfl, hb1⟩
    go_wp2_with (refine wpList_store_row rfl 62 (.tmp 10) (.tmp 19) rfl w1.heap.size (outA (Dd S l) 0) rfl rfl 62 _ (heap_alloc_new w1 _) size7 rfl (outA_one _ _) ?_)
    go_ret2
    exact HPo.out _ (below_setRow ((((Below.refl _ _).alloc (Nat.le_refl _) _).trans (hb1.mono (by simp))).alloc (by have := hb1.size; simp at this; omega) _) (by have := hb1.size; simp at this; omega) _)
  · rw [hr] at HPo HD
    simp only [if_true] at HPo HD
    have hDle := Dd_le S l
    obtain ⟨D, hD⟩ : ∃ D, Dd S l = D := ⟨_, rfl⟩
    rw [hD] at HPo HD hDle
    have HDle := Lib.hid hDle
    clear hD hDle
    unfold ints7
    go_enter Try.func15, Try.ntmps15
    go_wp2_with fail
    refine (HD.out _ (Hyw.out _) (by simp; omega)).mono ?_
    rintro e w1 ⟨rfl, hb1⟩
    obtain ⟨w2, hw2⟩ : ∃ w2, (w1.alloc (.cells #[.float .f64 0, .float .f64 0, .float .f64 0, .float .f64 0, .float .f64 0, .float .f64 0, .float .f64 0] 62)).setRow w1.heap.size (outA D 7) = w2 := ⟨_, rfl⟩
    have h2 : Hid (w2.heap[w1.heap.size]? = some (.cells (outA D 7) 62 (0, 0))) := by
      unfold Hid
      rw [← hw2]
      exact setRow_heap _ _ _ _ _ _ (heap_alloc_new w1 _)
    have hb2 : Below w.heap.size w w2 := by
      rw [← hw2]
      exact below_setRow ((((Below.refl _ _).alloc (Nat.le_refl _) _).trans (hb1.mono (by simp))).alloc (by have := hb1.size; simp at this; omega) _) (by have := hb1.size; simp at this; omega) _
    have Hw2 := Lib.hid hw2
    clear hw2
    go_wp2_with (first
      | (refine wpList_store_row rfl 62 (.tmp 10) (.tmp 19) rfl w1.heap.size (outA D 7) rfl rfl 62 _ (heap_alloc_new w1 _) size7 rfl (outA_one _ _) ?_; rw [Hw2.out])
      | (refine wpList_load_row rfl 62 (.tmp 10) rfl w1.heap.size rfl 62 (outA D 7) (0, 0) _ h2.out Try.underlying62 rfl size7 ?_))
    go_loopg [12, 13, 14, 25] 7 (fun g s12 _ _ s25 wr => ∃ k : Nat, k + g = 7 ∧ s25 = .int .i64 k ∧ s12 = .int .i64 (sil D x above k : Int) ∧ wr = w2)
    case atStart => exact ⟨0, by omega, rfl, rfl, rfl⟩
    case round =>
      obtain ⟨k, hkg, rfl, rfl, rfl⟩ := hrel
      have hk7 : k ≤ 7 := by omega
      have Hkg := Lib.hid hkg
      clear hkg
      by_cases hk : k < 7
      · have hix := index7 D hk
        have hsl := sil_lt D x above k
        have hor := or_add' hk hsl
        have hs2 : Hid (sil D x above (k + 1) = sil D x above k + if (hasB x k && lessB above (D k)) = true then 2 ^ k else 0) := rfl
        have hDk := HDle.out k
        have hp6 : 2 ^ k ≤ 2 ^ 6 := Nat.pow_le_pow_right (by omega) (by omega)
        have hsl2 : sil D x above k < 64 := by omega
        obtain ⟨s, hs⟩ : ∃ s, sil D x above k = s := ⟨_, rfl⟩
        rw [hs] at hor hs2 hsl2 ⊢
        have Hor := Lib.hid hor
        clear hor hs hsl hp6
        cases hh : hasB x k
        · have hs3 : Hid (sil D x above (k + 1) = s) := by unfold Hid; rw [hs2.out, hh]; rfl
          unfold hasB at hh
          go_wp2_with fail
          go_roundg (gk - 1)
          case rel => exact ⟨k + 1, by have := Hkg.out; omega, by go_num, by rw [hs3.out], rfl⟩
          case measure => have := Hkg.out; omega
        · cases hl : lessB above (D k)
          · have hs3 : Hid (sil D x above (k + 1) = s) := by unfold Hid; rw [hs2.out, hh, hl]; rfl
            unfold hasB at hh
            go_wp2_with (go_at_call 39; refine (Less_any _ _ _ ha (by omega)).mono ?_; rintro e w3 ⟨rfl, rfl⟩)
            go_roundg (gk - 1)
            case rel => exact ⟨k + 1, by have := Hkg.out; omega, by go_num, by rw [hs3.out], rfl⟩
            case measure => have := Hkg.out; omega
          · have hs3 : Hid (sil D x above (k + 1) = s + 2 ^ k) := by unfold Hid; rw [hs2.out, hh, hl]; rfl
            unfold hasB at hh
            go_wp2_with (go_at_call 39; refine (Less_any _ _ _ ha (by omega)).mono ?_; rintro e w3 ⟨rfl, rfl⟩)
            go_roundg (gk - 1)
            case rel => exact ⟨k + 1, by have := Hkg.out; omega, by go_num, by rw [hs3.out, ← Hor.out], rfl⟩
            case measure => have := Hkg.out; omega
      · obtain rfl : k = 7 := by omega
        go_wp2_with fail
        go_ret2
        exact HPo.out _ hb2
def WorstPost (S : Nat → Int) (l : List (Nat × Nat)) (x : Int) (w : World) (e : Ending) (w' : World) : Prop :=
  e = .returned (if allR l = true then .tuple #[.int .i64 (wst (Dd S l) x 7).1, .float .f64 (wst (Dd S l) x 7).2, .int .i64 0] else .tuple #[.int .i64 0, .float .f64 0, .int .i64 1]) ∧ Below w.heap.size w w'
set_option maxRecDepth 100000 in
set_option maxHeartbeats 3200000 in
theorem Worst_any (S : Nat → Int) (hS : ∀ i, -9223372036854775808 ≤ S i ∧ S i ≤ 9223372036854775807) (A : Option Addr) (n cap B : Nat) (l : List (Nat × Nat)) (x : Int) (w : World) (hy : RdRtts w B A n cap l) (hB : B ≤ w.heap.size) :
    Calls Try.prog 20 #[.agg (ints7 S), .slice A n cap, .int .i64 x] w (WorstPost S l x w) := by
  have HPo : Hid (∀ w', Below w.heap.size w w' → WorstPost S l x w (.returned (if allR l = true then .tuple #[.int .i64 (wst (Dd S l) x 7).1, .float .f64 (wst (Dd S l) x 7).2, .int .i64 0] else .tuple #[.int .i64 0, .float .f64 0, .int .i64 1])) w') := fun w' hb => ⟨rfl, hb⟩
  have HD : Hid (∀ W, RdRtts W B A n cap l → B ≤ W.heap.size → Calls Try.prog 38 #[.agg (ints7 S), .slice A n cap] W (DoubtsPost S l W)) := fun W h1 h2 => doubts_any S hS A n cap B l W h1 h2
  unfold DoubtsPost at HD
  have hyw : ∀ o, RdRtts (w.alloc o) B A n cap l := fun o => hy.below ((Below.refl _ _).alloc (Nat.le_refl _) _) hB
  have Hyw := Lib.hid hyw
  clear hyw
  have hst := run_store_float
  cases hr : allR l
  · rw [hr] at HPo HD
    simp only [Bool.false_eq_true, if_false] at HPo HD
    unfold ints7
    go_enter Try.func20, Try.ntmps20
    go_wp2_with fail
    refine (HD.out _ (Hyw.out _) (by simp; omega)).mono ?_
    rintro e w1 ⟨rfl, hb1⟩
    go_wp2_with (refine wpList_store_row rfl 62 (.tmp 9) (.tmp 19) rfl w1.heap.size (outA (Dd S l) 0) rfl rfl 62 _ (heap_alloc_new w1 _) size7 rfl (outA_one _ _) ?_)
    go_ret3
    exact HPo.out _ (below_setRow ((((Below.refl _ _).alloc (Nat.le_refl _) _).trans (hb1.mono (by simp))).alloc (by have := hb1.size; simp at this; omega) _) (by have := hb1.size; simp at this; omega) _)
  · rw [hr] at HPo HD
    simp only [if_true] at HPo HD
    have hDle := Dd_le S l
    obtain ⟨D, hD⟩ : ∃ D, Dd S l = D := ⟨_, rfl⟩
    rw [hD] at HPo HD hDle
    have HDle := Lib.hid hDle
    clear hD hDle
    unfold ints7
    go_enter Try.func20, Try.ntmps20
    go_wp2_with fail
    refine (HD.out _ (Hyw.out _) (by simp; omega)).mono ?_
    rintro e w1 ⟨rfl, hb1⟩
    obtain ⟨w2, hw2⟩ : ∃ w2, (w1.alloc (.cells #[.float .f64 0, .float .f64 0, .float .f64 0, .float .f64 0, .float .f64 0, .float .f64 0, .float .f64 0] 62)).setRow w1.heap.size (outA D 7) = w2 := ⟨_, rfl⟩
    have h2 : Hid (w2.heap[w1.heap.size]? = some (.cells (outA D 7) 62 (0, 0))) := by
      unfold Hid
      rw [← hw2]
      exact setRow_heap _ _ _ _ _ _ (heap_alloc_new w1 _)
    have hb2 : Below w.heap.size w w2 := by
      rw [← hw2]
      exact below_setRow ((((Below.refl _ _).alloc (Nat.le_refl _) _).trans (hb1.mono (by simp))).alloc (by have := hb1.size; simp at this; omega) _) (by have := hb1.size; simp at this; omega) _
    have Hw2 := Lib.hid hw2
    clear hw2
    go_wp2_with (first
      | (refine wpList_store_row rfl 62 (.tmp 9) (.tmp 19) rfl w1.heap.size (outA D 7) rfl rfl 62 _ (heap_alloc_new w1 _) size7 rfl (outA_one _ _) ?_; rw [Hw2.out])
      | (refine wpList_load_row rfl 62 (.tmp 9) rfl w1.heap.size rfl 62 (outA D 7) (0, 0) _ h2.out Try.underlying62 rfl size7 ?_))
    go_loopg [11, 12, 13, 14, 25] 7 (fun g s11 s12 _ _ s25 wr => ∃ k : Nat, k + g = 7 ∧ s25 = .int .i64 k ∧ s11 = .int .i64 (wst D x k).1 ∧ s12 = .float .f64 (wst D x k).2 ∧ wr = w2)
    case atStart => exact ⟨0, by omega, rfl, rfl, rfl, rfl⟩
    case round =>
      obtain ⟨k, hkg, rfl, rfl, rfl, rfl⟩ := hrel
      have hk7 : k ≤ 7 := by omega
      have Hkg := Lib.hid hkg
      clear hkg
      by_cases hk : k < 7
      · have hix := index7 D hk
        obtain ⟨b1, b2, b3⟩ := wst_bd D x HDle.out k
        have hs2 : Hid (wst D x (k + 1) = if (hasB x k && (decide ((wst D x k).1 < 0) || lessB (wst D x k).2 (D k))) = true then ((k : Int), D k) else wst D x k) := rfl
        have hDk := HDle.out k
        obtain ⟨a, d, hs⟩ : ∃ a d, wst D x k = (a, d) := ⟨_, _, rfl⟩
        rw [hs] at hs2 b1 b2 b3 ⊢
        dsimp only at hs2 b1 b2 b3 ⊢
        clear hs
        cases hh : hasB x k
        · have hs3 : Hid (wst D x (k + 1) = (a, d)) := by unfold Hid; rw [hs2.out, hh]; rfl
          unfold hasB at hh
          go_wp2_with fail
          go_roundg (gk - 1)
          case rel => exact ⟨k + 1, by have := Hkg.out; omega, by go_num, by rw [hs3.out], by rw [hs3.out], rfl⟩
          case measure => have := Hkg.out; omega
        · by_cases h0 : a < 0
          · have hs3 : Hid (wst D x (k + 1) = ((k : Int), D k)) := by unfold Hid; rw [hs2.out, hh, decide_eq_true h0]; rfl
            unfold hasB at hh
            go_wp2_with fail
            go_roundg (gk - 1)
            case rel => exact ⟨k + 1, by have := Hkg.out; omega, by go_num, by rw [hs3.out], by rw [hs3.out], rfl⟩
            case measure => have := Hkg.out; omega
          · cases hl : lessB d (D k)
            · have hs3 : Hid (wst D x (k + 1) = (a, d)) := by unfold Hid; rw [hs2.out, hh, hl, decide_eq_false h0]; rfl
              unfold hasB at hh
              go_wp2_with (go_at_call 39; refine (Less_any _ _ _ (by omega) (by omega)).mono ?_; rintro e w3 ⟨rfl, rfl⟩)
              go_roundg (gk - 1)
              case rel => exact ⟨k + 1, by have := Hkg.out; omega, by go_num, by rw [hs3.out], by rw [hs3.out], rfl⟩
              case measure => have := Hkg.out; omega
            · have hs3 : Hid (wst D x (k + 1) = ((k : Int), D k)) := by unfold Hid; rw [hs2.out, hh, hl, Bool.or_true]; rfl
              unfold hasB at hh
              go_wp2_with (go_at_call 39; refine (Less_any _ _ _ (by omega) (by omega)).mono ?_; rintro e w3 ⟨rfl, rfl⟩)
              go_roundg (gk - 1)
              case rel => exact ⟨k + 1, by have := Hkg.out; omega, by go_num, by rw [hs3.out], by rw [hs3.out], rfl⟩
              case measure => have := Hkg.out; omega
      · obtain rfl : k = 7 := by omega
        go_wp2_with fail
        go_ret3
        exact HPo.out _ hb2
end Go.Proofs.Ytebfaghgcecacaa
