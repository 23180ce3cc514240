/-
  The walk of PulseWorst.
-/
import Derived.Test.YtebfaghgcecacaaSilent
import Derived.Laws.Bits128
namespace Go.Proofs.Ytebfaghgcecacaa
open Go.RowKit
theorem i64_and1 (n : Int) : bits .and .i64 n 1 = n % 2 := by
  have h1 : (BitVec.ofInt 64 1).toNat = 2 ^ 1 - 1 := by decide
  have key : (BitVec.ofInt 64 n &&& BitVec.ofInt 64 1).toNat = (n % ((2 ^ 64 : Nat) : Int)).toNat % 2 ^ 1 := by
    rw [BitVec.toNat_and, BitVec.toNat_ofInt, h1, Nat.and_two_pow_sub_one_eq_mod]
  show IntKind.i64.wrap ((BitVec.ofInt 64 n &&& BitVec.ofInt 64 1).toNat : Nat) = n % 2
  rw [key, IntKind.wrap_i64]
  omega
theorem hasB_eq (x : Int) (i : Nat) : hasB x i = decide (x / 2 ^ i % 2 = 1) := by
  unfold hasB
  rw [i64_and1, Bool.eq_iff_iff]
  simp
theorem hasB_none {x : Int} (h : x % 128 = 0) {i : Nat} (hi : i < 7) : hasB x i = false := by
  rw [hasB_eq]
  have : i = 0 ∨ i = 1 ∨ i = 2 ∨ i = 3 ∨ i = 4 ∨ i = 5 ∨ i = 6 := by omega
  rcases this with rfl | rfl | rfl | rfl | rfl | rfl | rfl <;> simp <;> omega
theorem hasB_some {x : Int} (h : ∀ i, i < 7 → hasB x i = false) : x % 128 = 0 := by
  have h0 := h 0 (by omega)
  have h1 := h 1 (by omega)
  have h2 := h 2 (by omega)
  have h3 := h 3 (by omega)
  have h4 := h 4 (by omega)
  have h5 := h 5 (by omega)
  have h6 := h 6 (by omega)
  rw [hasB_eq] at h0 h1 h2 h3 h4 h5 h6
  simp at h0 h1 h2 h3 h4 h5 h6
  omega
theorem less_small {a b : Nat} (ha : a ≤ 9218868437227405312) (hb : b ≤ 9218868437227405312) : lessB a b = decide (a < b) := by
  obtain ⟨r1, s1⟩ := rg_small ha
  obtain ⟨r2, s2⟩ := rg_small hb
  unfold lessB
  rw [key_num (right_sg (right_small ha)).1, key_num (right_sg (right_small hb)).1, s1, s2, r1, r2]
  simp
/-- The one that is doubted most. -/
theorem wst_spec (D : Nat → Nat) (x : Int) (hD : ∀ i, D i ≤ 9218868437227405312) (k : Nat) :
    (wst D x k = (-1, 0) ∧ ∀ i, i < k → hasB x i = false) ∨
    ∃ j, j < k ∧ wst D x k = ((j : Int), D j) ∧ hasB x j = true ∧ (∀ i, i < k → hasB x i = true → D i ≤ D j) ∧ ∀ i, i < j → hasB x i = true → D i < D j := by
  induction k with
  | zero => exact .inl ⟨rfl, fun i h => by omega⟩
  | succ k ih =>
    have hs : wst D x (k + 1) = if (hasB x k && (decide ((wst D x k).1 < 0) || lessB (wst D x k).2 (D k))) = true then ((k : Int), D k) else wst D x k := rfl
    rcases ih with ⟨h1, h2⟩ | ⟨j, hj, h1, h2, h3, h4⟩
    · rw [h1] at hs
      cases hh : hasB x k
      · refine .inl ⟨by rw [hs, hh]; rfl, fun i hi => ?_⟩
        rcases Nat.lt_or_ge i k with h | h
        · exact h2 i h
        · obtain rfl : i = k := by omega
          exact hh
      · refine .inr ⟨k, by omega, by rw [hs, hh]; rfl, hh, fun i hi hb => ?_, fun i hi hb => ?_⟩
        · rcases Nat.lt_or_ge i k with h | h
          · rw [h2 i h] at hb; cases hb
          · obtain rfl : i = k := by omega
            exact Nat.le_refl _
        · rw [h2 i hi] at hb; cases hb
    · rw [h1] at hs
      have hneg : decide (((j : Int)) < 0) = false := by simp
      dsimp only at hs
      rw [hneg, Bool.false_or, less_small (hD j) (hD k)] at hs
      cases hh : hasB x k
      · refine .inr ⟨j, by omega, by rw [hs, hh]; rfl, h2, fun i hi hb => ?_, h4⟩
        rcases Nat.lt_or_ge i k with h | h
        · exact h3 i h hb
        · obtain rfl : i = k := by omega
          rw [hh] at hb; cases hb
      · rw [hh, Bool.true_and] at hs
        by_cases hl : D j < D k
        · rw [decide_eq_true hl, if_pos rfl] at hs
          refine .inr ⟨k, by omega, hs, hh, fun i hi hb => ?_, fun i hi hb => ?_⟩
          · rcases Nat.lt_or_ge i k with h | h
            · have := h3 i h hb; omega
            · obtain rfl : i = k := by omega
              exact Nat.le_refl _
          · have := h3 i hi hb; omega
        · rw [decide_eq_false hl] at hs
          refine .inr ⟨j, by omega, by rw [hs]; rfl, h2, fun i hi hb => ?_, h4⟩
          rcases Nat.lt_or_ge i k with h | h
          · exact h3 i h hb
          · obtain rfl : i = k := by omega
            omega
theorem small_gt {a b : Nat} (ha : a ≤ 9218868437227405312) (hb : b ≤ 9218868437227405312) : (FloatKind.f64.format.order a b == some Ordering.gt) = decide (b < a) := by
  obtain ⟨n1, n2, k1, k2⟩ := small_cmp ha hb
  rw [cmp_gt, n1, n2, k1, k2]
  simp
theorem small_geB {a b : Nat} (ha : a ≤ 9218868437227405312) (hb : b ≤ 9218868437227405312) : (FloatKind.f64.format.order a b == some Ordering.gt || FloatKind.f64.format.order a b == some Ordering.eq) = decide (b ≤ a) := by
  obtain ⟨n1, n2, k1, k2⟩ := small_cmp ha hb
  rw [cmp_ge, n1, n2, k1, k2]
  simp
/-- What Doubt tells of a node. -/
theorem Doubt_est (S : Nat → Int) (hS : ∀ i, -9223372036854775808 ≤ S i ∧ S i ≤ 9223372036854775807) {A : Option Addr} {n cap B : Nat} {l : List (Nat × Nat)} {w : World} (hy : RdRtts w B A n cap l) (hall : allR l = true) (k : Nat) (W : World) :
    Calls Try.prog 12 #[.int .i64 (S k), .agg #[.float .f64 (est l k).1, .float .f64 (est l k).2]] W fun e w' => e = .returned (.tuple #[.float .f64 (Dd S l k), .int .i64 0]) ∧ Below W.heap.size W w' := by
  have he : (est l k).1 < 18446744073709551616 ∧ (est l k).2 < 18446744073709551616 ∧ chk (est l k).1 (est l k).2 = true := by
    by_cases hkn : k < n
    · obtain ⟨b, off, m, v, rfl, hbB, hm, hv, c1, c2, Hst⟩ := hy.step hkn
      have e1 : est l k = (m, v) := by unfold est; rw [List.getD_eq_getElem?_getD, Hst.out.1]; rfl
      rw [e1]
      refine ⟨hm, hv, ?_⟩
      unfold allR at hall
      exact (List.all_eq_true.1 hall) (m, v) (List.mem_of_getElem? Hst.out.1)
    · have e1 : est l k = (9221120237041090561, 9221120237041090561) := by unfold est; rw [List.getD_eq_getElem?_getD, List.getElem?_eq_none (by have := hy.1; omega)]; rfl
      rw [e1]
      exact ⟨by omega, by omega, by decide⟩
  refine (Doubt_any (S k) _ _ W (hS k) he.1 he.2.1).mono fun e w' ⟨h1, h2⟩ => ?_
  rw [if_pos he.2.2] at h1
  exact ⟨h1, h2⟩
set_option maxRecDepth 100000 in
set_option maxHeartbeats 3200000 in
theorem worst_walk (S : Nat → Int) (hS : ∀ i, -9223372036854775808 ≤ S i ∧ S i ≤ 9223372036854775807) (A : Option Addr) (n cap : Nat) (l : List (Nat × Nat)) (x : Int) (W : World) (hy : RdRtts W W.heap.size A n cap l) :
    Calls Try.prog 5 #[.agg (ints7 S), .slice A n cap, .int .i64 x] W fun e w' => e = .returned (.bool true) ∧ Below W.heap.size W w' := by
  have hn := hy.n_le
  have hyw : ∀ o, RdRtts (W.alloc o) W.heap.size A n cap l := fun o => hy.below ((Below.refl _ _).alloc (Nat.le_refl _) _) (Nat.le_refl _)
  have Hyw := Lib.hid hyw
  clear hyw
  by_cases h100 : 100 < n
  · unfold ints7
    go_enter Try.func5, Try.ntmps5
    go_wp2_with fail
    go_ret
    exact ⟨rfl, (Below.refl _ _).alloc (Nat.le_refl _) _⟩
  have HW : Hid (∀ w, RdRtts w W.heap.size A n cap l → W.heap.size ≤ w.heap.size → Calls Try.prog 20 #[.agg (ints7 S), .slice A n cap, .int .i64 x] w (WorstPost S l x w)) := fun w h1 h2 => Worst_any S hS A n cap W.heap.size l x w h1 h2
  unfold WorstPost at HW
  have hz : (FloatKind.f64.format.order 0 0 == some Ordering.eq) = true := by rw [small_eq (by omega) (by omega)]; rfl
  cases hr : allR l
  · rw [hr] at HW
    simp only [Bool.false_eq_true, if_false] at HW
    unfold ints7
    go_enter Try.func5, Try.ntmps5
    go_wp2_with fail
    refine (HW.out _ (Hyw.out _) (by simp)).mono ?_
    rintro e w1 ⟨rfl, hb1⟩
    go_wp2_with fail
    refine (wakes_any _).mono ?_
    rintro e w2 ⟨rfl, hb2⟩
    go_wp2_with fail
    go_ret
    exact ⟨rfl, (((Below.refl _ _).alloc (Nat.le_refl _) _).trans (hb1.mono (by simp))).trans (hb2.mono (by have := hb1.size; simp at this; omega))⟩
  rw [hr] at HW
  simp only [if_true] at HW
  by_cases h127 : x % 128 = 0
  · have h0 : wst (Dd S l) x 7 = (-1, 0) := by
      rcases wst_spec (Dd S l) x (Dd_le S l) 7 with h | ⟨j, hj, _, h2, _⟩
      · exact h.1
      · rw [hasB_none h127 hj] at h2; cases h2
    rw [h0] at HW
    dsimp only at HW
    have hm : (bits .and .i64 x 127 == 0) = true := by rw [i64_and127, h127]; rfl
    clear h0 h127
    unfold ints7
    go_enter Try.func5, Try.ntmps5
    go_wp2_with fail
    refine (HW.out _ (Hyw.out _) (by simp)).mono ?_
    rintro e w1 ⟨rfl, hb1⟩
    go_wp2_with fail
    refine (wakes_any _).mono ?_
    rintro e w2 ⟨rfl, hb2⟩
    go_wp2_with fail
    go_ret
    exact ⟨rfl, (((Below.refl _ _).alloc (Nat.le_refl _) _).trans (hb1.mono (by simp))).trans (hb2.mono (by have := hb1.size; simp at this; omega))⟩
  have hm : (bits .and .i64 x 127 == 0) = false := by rw [i64_and127]; simpa using h127
  obtain ⟨j, hj, h1, h2, h3, h4⟩ : ∃ j : Nat, j < 7 ∧ wst (Dd S l) x 7 = ((j : Int), Dd S l j) ∧ hasB x j = true ∧ (∀ i : Nat, i < 7 → hasB x i = true → Dd S l i ≤ Dd S l j) ∧ ∀ i : Nat, i < j → hasB x i = true → Dd S l i < Dd S l j := by
    rcases wst_spec (Dd S l) x (Dd_le S l) 7 with h | h
    · exact absurd (hasB_some h.2) h127
    · exact h
  rw [h1] at HW
  dsimp only at HW
  have Hde : Hid (∀ k w, Calls Try.prog 12 #[.int .i64 (S k), .agg #[.float .f64 (est l k).1, .float .f64 (est l k).2]] w fun e w' => e = .returned (.tuple #[.float .f64 (Dd S l k), .int .i64 0]) ∧ Below w.heap.size w w') := fun k w => Doubt_est S hS hy hr k w
  obtain ⟨D, hD⟩ : ∃ D, Dd S l = D := ⟨_, rfl⟩
  have hDle := Dd_le S l
  rw [hD] at HW h1 h3 h4 Hde hDle
  have HDle := Lib.hid hDle
  have H3 := Lib.hid h3
  have H4 := Lib.hid h4
  clear h3 h4 hD h1 h127 hDle
  have hbj : (bits .and .i64 (x / 2 ^ j) 1 != 1) = false := by
    unfold hasB at h2
    rw [bne, h2]; rfl
  clear h2
  unfold ints7
  go_enter Try.func5, Try.ntmps5
  go_wp2_with fail
  refine (HW.out _ (Hyw.out _) (by simp)).mono ?_
  rintro e w1 ⟨rfl, hb1⟩
  have hs1 : Hid (w1.heap[W.heap.size]? = some (.cells (ints7 S) 31 (0, 0))) := by
    unfold Hid
    rw [hb1.block _ (by simp)]
    exact heap_alloc_new W _
  have hbw1 : Below W.heap.size W w1 := ((Below.refl _ _).alloc (Nat.le_refl _) _).trans (hb1.mono (by simp))
  have hz1 : W.heap.size < w1.heap.size := by have := hb1.size; simp at this; omega
  go_wp2_with fail
  have hst := run_store_float
  go_loopg [10, 11, 12, 13] 7 (fun g s10 _ _ _ wr => ∃ k : Nat, k + g = 7 ∧ s10 = .int .i64 k ∧ Below W.heap.size W wr ∧ W.heap.size < wr.heap.size ∧ wr.heap[W.heap.size]? = some (.cells (ints7 S) 31 (0, 0)))
  case atStart => exact ⟨0, by omega, rfl, hbw1, hz1, hs1.out⟩
  case round =>
    obtain ⟨k, hkg, rfl, hbk, hzk, hsk⟩ := hrel
    have hk7 : k ≤ 7 := by omega
    have Hkg := Lib.hid hkg
    have Hsk := Lib.hid hsk
    clear hkg hsk
    by_cases hk : k < 7
    · have hSk := hS k
      have hs0 : wr.cell? ⟨W.heap.size, k, none⟩ = some (.int .i64 (S k)) := by rw [cell_of_row _ _ _ _ _ _ Hsk.out]; exact ints7_get _ hk
      have Hs0 := Lib.hid hs0
      clear hs0
      have Hck : Hid (∀ w, Calls Try.prog 12 #[.int .i64 (S k), .agg #[.float .f64 (est l k).1, .float .f64 (est l k).2]] w fun e w' => e = .returned (.tuple #[.float .f64 (D k), .int .i64 0]) ∧ Below w.heap.size w w') := fun w => Hde.out k w
      have hDk := HDle.out k
      have hDj := HDle.out j
      have hg1 := small_gt hDk hDj
      have hg2 := small_geB hDk hDj
      rcases Decidable.em (k < n) with hkn | hkn
      case' inl =>
        obtain ⟨b, off, m, v, rfl, hbB, hm1, hv1, c1, c2, Hst⟩ := hy.step hkn
        have e1 : est l k = (m, v) := by unfold est; rw [List.getD_eq_getElem?_getD, Hst.out.1]; rfl
        have c1' := (hbk.cell (p := ⟨b, off + k * 2, none⟩) hbB).trans c1
        have c2' := (hbk.cell (p := ⟨b, off + k * 2 + 1, none⟩) hbB).trans c2
        clear c1 c2
      case' inr =>
        obtain ⟨m, v, e1, HN⟩ : ∃ m v, est l k = (m, v) ∧ Hid (∀ w, Calls Try.prog 19 #[] w fun e w' => e = .returned (.agg #[.float .f64 m, .float .f64 v]) ∧ Below w.heap.size w w') :=
          ⟨_, _, by unfold est; rw [List.getD_eq_getElem?_getD, List.getElem?_eq_none (by have := hy.1; omega)]; rfl, fun w => RefNew_any w⟩
      all_goals
        rw [e1] at Hck
        clear e1
        have Hg1 := Lib.hid hg1
        have Hg2 := Lib.hid hg2
        clear hg1 hg2
      case' inl =>
        go_wp2_with fail
        refine (RefNew_any _).mono ?_
        rintro e w4 ⟨rfl, hb4⟩
        have hbz4 : b < w4.heap.size := by have := hb4.size; omega
        have c1'' := (hb4.cell (p := ⟨b, off + k * 2, none⟩) (by show b < _; omega)).trans c1'
        have c2'' := (hb4.cell (p := ⟨b, off + k * 2 + 1, none⟩) (by show b < _; omega)).trans c2'
        clear c1' c2'
        go_wp2_with fail
      case' inr =>
        go_wp2_with fail
        refine (HN.out _).mono ?_
        rintro e w4 ⟨rfl, hb4⟩
        go_wp2_with fail
      all_goals
        have hz4 : W.heap.size < w4.heap.size := by have := hb4.size; omega
        have hx9 : (w4.alloc (.cells #[.float .f64 m, .float .f64 v] 24)).heap[w4.heap.size]? = some (.cells #[.float .f64 m, .float .f64 v] 24 (0, 0)) := heap_alloc_new _ _
        obtain ⟨w5, hw5⟩ : ∃ w5, w4.alloc (.cells #[.float .f64 m, .float .f64 v] 24) = w5 := ⟨_, rfl⟩
        rw [hw5] at hx9 ⊢
        have hb5 : Below wr.heap.size wr w5 := by rw [← hw5]; exact hb4.alloc hb4.size _
        have hz5 : w5.heap.size = w4.heap.size + 1 := by rw [← hw5]; simp
        have x0 : w5.cell? ⟨w4.heap.size, 0, none⟩ = some (.float .f64 m) := cell_of_row _ _ _ _ _ _ hx9
        have x1 : w5.cell? ⟨w4.heap.size, 1, none⟩ = some (.float .f64 v) := cell_of_row _ _ _ _ _ _ hx9
        have x2 : w5.cell? ⟨W.heap.size, k, none⟩ = some (.int .i64 (S k)) := (hb5.cell (p := ⟨W.heap.size, k, none⟩) hzk).trans Hs0.out
        have Hw5 := Lib.hid hw5
        have Hmk : Hid (∀ w', Below w5.heap.size w5 w' → w'.cell? ⟨w4.heap.size, 0, none⟩ = some (.float .f64 m) ∧ w'.cell? ⟨w4.heap.size, 1, none⟩ = some (.float .f64 v) ∧ w'.cell? ⟨W.heap.size, k, none⟩ = some (.int .i64 (S k))) := fun w' hb =>
          ⟨(hb.cell (p := ⟨w4.heap.size, 0, none⟩) (by show w4.heap.size < _; omega)).trans x0, (hb.cell (p := ⟨w4.heap.size, 1, none⟩) (by show w4.heap.size < _; omega)).trans x1,
            (hb.cell (p := ⟨W.heap.size, k, none⟩) (by show W.heap.size < _; omega)).trans x2⟩
        clear hx9 hw5 x0 x1 x2
        go_region_held3 (fun w' => w'.cell? ⟨w4.heap.size, 0, none⟩ = some (.float .f64 m) ∧ w'.cell? ⟨w4.heap.size, 1, none⟩ = some (.float .f64 v) ∧ w'.cell? ⟨W.heap.size, k, none⟩ = some (.int .i64 (S k)))
          ((first | assumption | exact Hmk.out _ (Below.drew (Below.refl _ _)) | exact Hmk.out _ hb6'))
          ((first
            | (go_at_call 12
               refine (Hck.out _).mono ?_
               rintro e w6 ⟨rfl, hb6⟩
               have hb6' : Below w5.heap.size w5 w6 := (Below.drew (Below.refl _ _)).trans hb6)))
        have hbr : Below wr.heap.size wr w6 := hb5.trans (hb6'.mono hb5.size)
      all_goals
        have hend : Hid (Below W.heap.size W w6 ∧ W.heap.size < w6.heap.size ∧ w6.heap[W.heap.size]? = some (.cells (ints7 S) 31 (0, 0))) :=
          ⟨hbk.trans (hbr.mono (by omega)), by have := hbr.size; omega, (hbr.block _ (by omega)).trans Hsk.out⟩
        cases hh : hasB x k
        · unfold hasB at hh
          go_wp2_with fail
          go_roundg (gk - 1)
          case rel => exact ⟨k + 1, by have := Hkg.out; omega, by go_num, hend.out⟩
          case measure => have := Hkg.out; omega
        · have q1 : (FloatKind.f64.format.order (D k) (D j) == some Ordering.gt) = false := by
            rw [Hg1.out]
            have := H3.out k hk hh
            simp; omega
          rcases Decidable.em (k < j) with hkj | hkj
          · have q2 : (FloatKind.f64.format.order (D k) (D j) == some Ordering.gt || FloatKind.f64.format.order (D k) (D j) == some Ordering.eq) = false := by
              rw [Hg2.out]
              have := H4.out k hkj hh
              simp; omega
            rw [q1] at q2
            unfold hasB at hh
            go_wp2_with fail
            go_roundg (gk - 1)
            case rel => exact ⟨k + 1, by have := Hkg.out; omega, by go_num, hend.out⟩
            case measure => have := Hkg.out; omega
          · unfold hasB at hh
            go_wp2_with fail
            go_roundg (gk - 1)
            case rel => exact ⟨k + 1, by have := Hkg.out; omega, by go_num, hend.out⟩
            case measure => have := Hkg.out; omega
    · go_wp2_with fail
      refine (wakes_any _).mono ?_
      rintro e w9 ⟨rfl, hb9⟩
      go_wp2_with fail
      go_ret
      exact ⟨rfl, hbk.trans (hb9.mono (by omega))⟩
end Go.Proofs.Ytebfaghgcecacaa
