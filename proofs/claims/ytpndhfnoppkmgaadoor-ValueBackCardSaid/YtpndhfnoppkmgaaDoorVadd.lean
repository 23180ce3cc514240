/-
  Two values' sum, and the greater one: value.Add, value.Max.
-/
import Derived.Test.YtpndhfnoppkmgaaDoorVboth
namespace Go.Proofs.YtpndhfnoppkmgaaDoor
open Go.RowKit
set_option maxRecDepth 100000
theorem Qt_below {w : World} {v : Value} {e : Ending} {w' : World} (h : Qt w v e w') : e = .returned v ∧ Below w.heap.size w w' := by
  obtain ⟨h1, m, rfl⟩ := h
  exact ⟨h1, ⟨rfl, rfl, rfl, Nat.le_refl _, fun k _ => rfl⟩⟩
set_option maxHeartbeats 1600000 in
theorem Vadd_any (a b : Va) (w : World) (ha : a.x < 18446744073709551616) (hb : b.x < 18446744073709551616) (sa : a.s.size ≤ maxLen) (sb : b.s.size ≤ maxLen) :
    Calls Tryd.prog 13 #[a.v, b.v] w (JPost addV a b w) := by
  have HB : Hid (∀ w, Calls Tryd.prog 27 #[a.v, b.v, .func (.func 28) #[] #[]] w (JPost addV a b w)) := fun w => Vboth_ADD addV a b w ha hb sa sb (fun w => (Add_any a.x b.x w).mono fun e w' h => Qt_below h)
  unfold JPost at HB
  obtain ⟨⟨k3, x3, s3⟩, n3, hj⟩ : ∃ r n, joinV addV a b = (r, n) := ⟨_, _, rfl⟩
  have HJ : Hid (∀ w', Below w.heap.size w w' → JPost addV a b w (.returned (.tuple #[.agg #[.int .i64 k3, .float .f64 x3, .string s3], .int .i64 n3])) w') := fun w' h => by
    unfold JPost
    rw [hj]
    exact ⟨rfl, h⟩
  rw [hj] at HB
  clear hj
  obtain ⟨J, hJ⟩ : ∃ J, JPost addV a b w = J := ⟨_, rfl⟩
  rw [hJ] at HJ ⊢
  clear hJ
  obtain ⟨k1, x1, s1⟩ := a
  obtain ⟨k2, x2, s2⟩ := b
  unfold Va.v at HB ⊢
  dsimp only at HB ⊢
  obtain ⟨W3, hW3⟩ : ∃ W3, (((w.alloc (.cells #[.int .i64 k1, .float .f64 x1, .string s1] 24)).alloc (.cells #[.int .i64 k2, .float .f64 x2, .string s2] 24)).alloc (.cells #[.int .i64 0, .float .f64 0, .string ⟨#[]⟩] 24)) = W3 := ⟨_, rfl⟩
  have hb3 : Below w.heap.size w W3 := by rw [← hW3]; exact (two_below _ _ _).alloc (by simp <;> omega) _
  have hz3 : W3.heap.size = w.heap.size + 3 := by rw [← hW3]; simp
  have h2 : W3.heap[w.heap.size + 1 + 1]? = some (.cells #[.int .i64 0, .float .f64 0, .string ⟨#[]⟩] 24 (0, 0)) := by
    rw [← hW3]
    have := heap_alloc_new ((w.alloc (.cells #[.int .i64 k1, .float .f64 x1, .string s1] 24)).alloc (.cells #[.int .i64 k2, .float .f64 x2, .string s2] 24)) (.cells #[.int .i64 0, .float .f64 0, .string ⟨#[]⟩] 24)
    simpa using this
  have Hres : Hid (∀ w' : World, Below W3.heap.size W3 w' → w'.heap[w.heap.size + 1 + 1]? = some (.cells #[.int .i64 0, .float .f64 0, .string ⟨#[]⟩] 24 (0, 0))) := fun w' hb => (hb.block _ (by omega)).trans h2
  have HW3 := Lib.hid hW3
  clear h2 hW3
  go_enter Tryd.func13, Tryd.ntmps13
  go_wp2_with fail
  rw [HW3.out]
  refine (HB.out _).mono ?_
  rintro e w5 ⟨rfl, hb5⟩
  go_wp2_with (refine wpList_store_row rfl 24 _ _ rfl (w.heap.size + 1 + 1) #[.int .i64 k3, .float .f64 x3, .string s3] rfl rfl 24 _ (Hres.out _ hb5) size3 rfl (val_one _ _ _) ?_)
  refine bodyPost_ret (results_val Tryd.results13 _ _ (w.heap.size + 1 + 1) _ _ _ _ rfl rfl (setRow_heap _ _ _ _ _ _ (Hres.out _ hb5))) rfl ?_
  exact HJ.out _ (below_setRow (hb3.trans (hb5.mono (by omega))) (by omega) _)
set_option maxHeartbeats 1600000 in
theorem Vmax_any (a b : Va) (w : World) (ha : a.x < 18446744073709551616) (hb : b.x < 18446744073709551616) (sa : a.s.size ≤ maxLen) (sb : b.s.size ≤ maxLen) :
    Calls Tryd.prog 14 #[a.v, b.v] w (JPost maxV a b w) := by
  have HB : Hid (∀ w, Calls Tryd.prog 27 #[a.v, b.v, .func (.func 29) #[] #[]] w (JPost maxV a b w)) := fun w => Vboth_MAX maxV a b w ha hb sa sb (fun w => (Max_any a.x b.x w ha hb).mono fun e w' ⟨h1, h2⟩ => ⟨h1, by rw [← h2]; exact Below.refl _ _⟩)
  unfold JPost at HB
  obtain ⟨⟨k3, x3, s3⟩, n3, hj⟩ : ∃ r n, joinV maxV a b = (r, n) := ⟨_, _, rfl⟩
  have HJ : Hid (∀ w', Below w.heap.size w w' → JPost maxV a b w (.returned (.tuple #[.agg #[.int .i64 k3, .float .f64 x3, .string s3], .int .i64 n3])) w') := fun w' h => by
    unfold JPost
    rw [hj]
    exact ⟨rfl, h⟩
  rw [hj] at HB
  clear hj
  obtain ⟨J, hJ⟩ : ∃ J, JPost maxV a b w = J := ⟨_, rfl⟩
  rw [hJ] at HJ ⊢
  clear hJ
  obtain ⟨k1, x1, s1⟩ := a
  obtain ⟨k2, x2, s2⟩ := b
  unfold Va.v at HB ⊢
  dsimp only at HB ⊢
  obtain ⟨W3, hW3⟩ : ∃ W3, (((w.alloc (.cells #[.int .i64 k1, .float .f64 x1, .string s1] 24)).alloc (.cells #[.int .i64 k2, .float .f64 x2, .string s2] 24)).alloc (.cells #[.int .i64 0, .float .f64 0, .string ⟨#[]⟩] 24)) = W3 := ⟨_, rfl⟩
  have hb3 : Below w.heap.size w W3 := by rw [← hW3]; exact (two_below _ _ _).alloc (by simp <;> omega) _
  have hz3 : W3.heap.size = w.heap.size + 3 := by rw [← hW3]; simp
  have h2 : W3.heap[w.heap.size + 1 + 1]? = some (.cells #[.int .i64 0, .float .f64 0, .string ⟨#[]⟩] 24 (0, 0)) := by
    rw [← hW3]
    have := heap_alloc_new ((w.alloc (.cells #[.int .i64 k1, .float .f64 x1, .string s1] 24)).alloc (.cells #[.int .i64 k2, .float .f64 x2, .string s2] 24)) (.cells #[.int .i64 0, .float .f64 0, .string ⟨#[]⟩] 24)
    simpa using this
  have Hres : Hid (∀ w' : World, Below W3.heap.size W3 w' → w'.heap[w.heap.size + 1 + 1]? = some (.cells #[.int .i64 0, .float .f64 0, .string ⟨#[]⟩] 24 (0, 0))) := fun w' hb => (hb.block _ (by omega)).trans h2
  have HW3 := Lib.hid hW3
  clear h2 hW3
  go_enter Tryd.func14, Tryd.ntmps14
  go_wp2_with fail
  rw [HW3.out]
  refine (HB.out _).mono ?_
  rintro e w5 ⟨rfl, hb5⟩
  go_wp2_with (refine wpList_store_row rfl 24 _ _ rfl (w.heap.size + 1 + 1) #[.int .i64 k3, .float .f64 x3, .string s3] rfl rfl 24 _ (Hres.out _ hb5) size3 rfl (val_one _ _ _) ?_)
  refine bodyPost_ret (results_val Tryd.results14 _ _ (w.heap.size + 1 + 1) _ _ _ _ rfl rfl (setRow_heap _ _ _ _ _ _ (Hres.out _ hb5))) rfl ?_
  exact HJ.out _ (below_setRow (hb3.trans (hb5.mono (by omega))) (by omega) _)
end Go.Proofs.YtpndhfnoppkmgaaDoor
