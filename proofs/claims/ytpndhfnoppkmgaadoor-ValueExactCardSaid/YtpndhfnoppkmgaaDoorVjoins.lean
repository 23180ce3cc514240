/-
  The walk of ValueJoins.
-/
import Derived.Test.YtpndhfnoppkmgaaDoorVorder
import Derived.Test.YtpndhfnoppkmgaaDoorVadd
namespace Go.Proofs.YtpndhfnoppkmgaaDoor
open Go.RowKit Go.Sort
set_option maxRecDepth 100000
theorem nan_canon : canon 9221120237041090561 = 9221120237041090561 := by decide
theorem canon_addV (a b : Nat) : canon (addV a b) = addV a b := by
  unfold addV
  cases h : Ieee.double.add a b with
  | none => exact nan_canon
  | some r => exact canon_num (add_ok h).1
theorem canon_maxV {a b : Nat} (ha : canon a = a) (hb : canon b = b) : canon (maxV a b) = maxV a b := by
  unfold maxV
  split
  · exact nan_canon
  · split <;> assumption
theorem same_refl (x : Nat) : sameB x x = true := by unfold sameB; exact decide_eq_true rfl
theorem less_iff (x y : Nat) : lessB x y = true ↔ key x < key y := by unfold lessB; exact decide_eq_true_iff
theorem key_max (a b : Nat) : key (maxV a b) = max (key a) (key b) := by
  have h1 := key_le a
  have h2 := key_le b
  have hN : key 9221120237041090561 = 9221120237041090561 := by decide
  unfold maxV
  split
  · rename_i h
    rw [hN]
    rcases h with h | h
    · rw [key_nan h] at *; omega
    · rw [key_nan h] at *; omega
  · split
    · rename_i h
      have := (less_iff a b).1 h
      omega
    · rename_i h
      have : ¬ key a < key b := fun h' => h ((less_iff a b).2 h')
      omega
theorem same_max (a b : Nat) : sameB (maxV a b) (maxV b a) = true := by
  unfold sameB
  rw [key_max, key_max]
  exact decide_eq_true (by omega)
theorem eqS_refl (s : ByteArray) : eqS s s = true := by unfold eqS; exact beq_self_eq_true _
theorem sameVa_refl (a : Va) : sameVa a a = true := by unfold sameVa; rw [same_refl, eqS_refl]; simp
/-- What the two sums of right values are. -/
theorem join_cases (mk : Nat → Nat → Nat) (a b : Va) (ha : a.x < 18446744073709551616) (hb : b.x < 18446744073709551616) (sa : a.s.size ≤ maxLen) (sb : b.s.size ≤ maxLen) (ca : chkVa a = 0) (cb : chkVa b = 0)
    (hm : ∀ x y, x < 18446744073709551616 → y < 18446744073709551616 → mk x y < 18446744073709551616) (hc : canon a.x = a.x → canon b.x = b.x → canon (mk a.x b.x) = mk a.x b.x) (hs : sameB (mk a.x b.x) (mk b.x a.x) = true) :
    ∃ x y n m, joinV mk a b = (x, n) ∧ joinV mk b a = (y, m) ∧ x.x < 18446744073709551616 ∧ y.x < 18446744073709551616 ∧ x.s.size ≤ maxLen ∧ y.s.size ≤ maxLen ∧
      (n = 8 ∧ a.k ≠ 0 ∧ (m = 0 ∨ m = 8) ∧ ¬ (a.k = 1 ∧ b.k = 1) ∨ n = 0 ∧ chkVa x = 0 ∧ (m = 8 ∧ a.k = 0 ∧ b.k ≠ 0 ∧ sameVa x b = true ∨ m = 0 ∧ a.k = 0 ∧ b.k = 0 ∧ sameVa x b = true ∧ sameVa x y = true ∨ m = 0 ∧ a.k = 1 ∧ b.k = 1 ∧ sameVa x y = true)) := by
  have hnn : ∀ c : Va, c.x < 18446744073709551616 → chkVa c = 0 → c.k = 0 → c.x = 0 ∧ c.s.toList = [] := fun c hl h h0 => by
    unfold chkVa at h
    rw [if_pos h0] at h
    have h2 : (sameB c.x 0 && eqS c.s ⟨#[]⟩) = true := by
      cases hh : (sameB c.x 0 && eqS c.s ⟨#[]⟩)
      · rw [hh] at h; simp at h
      · rfl
    rw [Bool.and_eq_true, nought_eq hl] at h2
    have he : ((⟨#[]⟩ : ByteArray).toList) = [] := by rw [ByteArray.toList_eq]
    exact ⟨by simpa using h2.1, by have := (eqS_iff _ _).1 h2.2; rw [he] at this; exact this⟩
  have hn1 : ∀ c : Va, chkVa c = 0 → c.k = 1 → canon c.x = c.x := fun c h h0 => by
    unfold chkVa at h
    rw [if_neg (by omega), if_pos h0] at h
    have h2 : (canon c.x == c.x && eqS c.s ⟨#[]⟩) = true := by
      cases hh : (canon c.x == c.x && eqS c.s ⟨#[]⟩)
      · rw [hh] at h; simp at h
      · rfl
    rw [Bool.and_eq_true] at h2
    simpa using h2.1
  have j1 : joinV mk a b = if a.k = 0 then (b, 0) else if a.k ≠ 1 ∨ b.k ≠ 1 then (zeroVa, 8) else (⟨1, mk a.x b.x, ⟨#[]⟩⟩, 0) := by
    unfold joinV
    rw [if_neg (fun h => h ca), if_neg (fun h => h cb)]
  have j2 : joinV mk b a = if b.k = 0 then (a, 0) else if b.k ≠ 1 ∨ a.k ≠ 1 then (zeroVa, 8) else (⟨1, mk b.x a.x, ⟨#[]⟩⟩, 0) := by
    unfold joinV
    rw [if_neg (fun h => h cb), if_neg (fun h => h ca)]
  have hz : zeroVa.x < 18446744073709551616 ∧ zeroVa.s.size ≤ maxLen := ⟨by decide, by decide⟩
  have hone : ∀ x, x < 18446744073709551616 → canon x = x → chkVa ⟨1, x, ⟨#[]⟩⟩ = 0 := fun x _ h => by
    unfold chkVa
    dsimp only
    rw [if_neg (by decide), if_pos rfl, h, eqS_refl]
    simp
  rcases Decidable.em (a.k = 0) with a0 | a0
  · rw [if_pos a0] at j1
    rcases Decidable.em (b.k = 0) with b0 | b0
    · rw [if_pos b0] at j2
      refine ⟨b, a, 0, 0, j1, j2, hb, ha, sb, sa, .inr ⟨rfl, cb, .inr (.inl ⟨rfl, a0, b0, sameVa_refl _, ?_⟩)⟩⟩
      obtain ⟨e1, e2⟩ := hnn a ha ca a0
      obtain ⟨e3, e4⟩ := hnn b hb cb b0
      unfold sameVa
      rw [a0, b0, e1, e3, same_refl, (eqS_iff _ _).2 (e4.trans e2.symm)]
      rfl
    · rw [if_neg b0, if_pos (.inr (by omega))] at j2
      exact ⟨b, zeroVa, 0, 8, j1, j2, hb, hz.1, sb, hz.2, .inr ⟨rfl, cb, .inl ⟨rfl, a0, b0, sameVa_refl _⟩⟩⟩
  · rw [if_neg a0] at j1
    rcases Decidable.em (a.k = 1 ∧ b.k = 1) with h1 | h1
    · rw [if_neg (by omega)] at j1
      rw [if_neg (by omega), if_neg (by omega)] at j2
      have cc := hc (hn1 a ca h1.1) (hn1 b cb h1.2)
      refine ⟨_, _, 0, 0, j1, j2, hm _ _ ha hb, hm _ _ hb ha, Nat.zero_le _, Nat.zero_le _, .inr ⟨rfl, hone _ (hm _ _ ha hb) cc, .inr (.inr ⟨rfl, h1.1, h1.2, ?_⟩)⟩⟩
      unfold sameVa
      dsimp only
      rw [hs, eqS_refl]
      rfl
    · rw [if_pos (Decidable.byCases (fun e : a.k = 1 => .inr fun e' => h1 ⟨e, e'⟩) (fun e => .inl e))] at j1
      rcases Decidable.em (b.k = 0) with b0 | b0
      · rw [if_pos b0] at j2
        exact ⟨zeroVa, a, 8, 0, j1, j2, hz.1, ha, hz.2, sa, .inl ⟨rfl, a0, .inl rfl, h1⟩⟩
      · rw [if_neg b0, if_pos (Decidable.byCases (fun e : b.k = 1 => .inr fun e' => h1 ⟨e', e⟩) (fun e => .inl e))] at j2
        exact ⟨zeroVa, zeroVa, 8, 8, j1, j2, hz.1, hz.1, hz.2, hz.2, .inl ⟨rfl, a0, .inr rfl, h1⟩⟩
theorem setRow_offv {w : World} {g k : Nat} {o : Option Obj} (h : w.heap[k]? = o) (hk : g ≠ k) (cs : Array Value) : (w.setRow g cs).heap[k]? = o := by
  rw [← h]
  unfold World.setRow
  simp [Array.getElem?_modify, hk]
def JC (n m k1 k2 : Int) : Prop := n = 8 ∧ k1 ≠ 0 ∧ (m = 0 ∨ m = 8) ∨ n = 0 ∧ m = 8 ∧ k1 = 0 ∧ k2 ≠ 0 ∨ n = 0 ∧ m = 0 ∧ k1 = 0 ∧ k2 = 0 ∨ n = 0 ∧ m = 0 ∧ k1 = 1 ∧ k2 = 1
set_option maxHeartbeats 6400000 in
theorem vjoins_main (k1 : Int) (x1 : Nat) (s1 : ByteArray) (k2 : Int) (x2 : Nat) (s2 : ByteArray) (k3 : Int) (x3 : Nat) (s3 : ByteArray) (k4 : Int) (x4 : Nat) (s4 : ByteArray) (k5 : Int) (x5 : Nat) (s5 : ByteArray) (k6 : Int) (x6 : Nat) (s6 : ByteArray) (n m : Int) (W : World)
    (HA : Hid (∀ w, Calls Tryd.prog 8 #[.agg #[.int .i64 k1, .float .f64 x1, .string s1]] w fun e w' => e = .returned (.bool false) ∧ Below w.heap.size w w'))
    (HB : Hid (∀ w, Calls Tryd.prog 8 #[.agg #[.int .i64 k2, .float .f64 x2, .string s2]] w fun e w' => e = .returned (.bool false) ∧ Below w.heap.size w w'))
    (HKA : Hid (∀ w, Calls Tryd.prog 12 #[.agg #[.int .i64 k1, .float .f64 x1, .string s1]] w fun e w' => e = .returned (.int .i64 0) ∧ Below w.heap.size w w'))
    (HKB : Hid (∀ w, Calls Tryd.prog 12 #[.agg #[.int .i64 k2, .float .f64 x2, .string s2]] w fun e w' => e = .returned (.int .i64 0) ∧ Below w.heap.size w w'))
    (HADD : Hid (∀ w, Calls Tryd.prog 13 #[.agg #[.int .i64 k1, .float .f64 x1, .string s1], .agg #[.int .i64 k2, .float .f64 x2, .string s2]] w fun e w' => e = .returned (.tuple #[.agg #[.int .i64 k3, .float .f64 x3, .string s3], .int .i64 n]) ∧ Below w.heap.size w w'))
    (HADD2 : Hid (∀ w, Calls Tryd.prog 13 #[.agg #[.int .i64 k2, .float .f64 x2, .string s2], .agg #[.int .i64 k1, .float .f64 x1, .string s1]] w fun e w' => e = .returned (.tuple #[.agg #[.int .i64 k4, .float .f64 x4, .string s4], .int .i64 m]) ∧ Below w.heap.size w w'))
    (HMAX : Hid (∀ w, Calls Tryd.prog 14 #[.agg #[.int .i64 k1, .float .f64 x1, .string s1], .agg #[.int .i64 k2, .float .f64 x2, .string s2]] w fun e w' => e = .returned (.tuple #[.agg #[.int .i64 k5, .float .f64 x5, .string s5], .int .i64 n]) ∧ Below w.heap.size w w'))
    (HMAX2 : Hid (∀ w, Calls Tryd.prog 14 #[.agg #[.int .i64 k2, .float .f64 x2, .string s2], .agg #[.int .i64 k1, .float .f64 x1, .string s1]] w fun e w' => e = .returned (.tuple #[.agg #[.int .i64 k6, .float .f64 x6, .string s6], .int .i64 m]) ∧ Below w.heap.size w w'))
    (HCX : Hid (n = 0 → ∀ w, Calls Tryd.prog 12 #[.agg #[.int .i64 k3, .float .f64 x3, .string s3]] w fun e w' => e = .returned (.int .i64 0) ∧ Below w.heap.size w w'))
    (HCY : Hid (n = 0 → ∀ w, Calls Tryd.prog 12 #[.agg #[.int .i64 k5, .float .f64 x5, .string s5]] w fun e w' => e = .returned (.int .i64 0) ∧ Below w.heap.size w w'))
    (HSX : Hid (n = 0 → m = 0 → ∀ w, Calls Tryd.prog 10 #[.agg #[.int .i64 k3, .float .f64 x3, .string s3], .agg #[.int .i64 k4, .float .f64 x4, .string s4]] w fun e w' => e = .returned (.bool true) ∧ Below w.heap.size w w'))
    (HSY : Hid (n = 0 → m = 0 → ∀ w, Calls Tryd.prog 10 #[.agg #[.int .i64 k5, .float .f64 x5, .string s5], .agg #[.int .i64 k6, .float .f64 x6, .string s6]] w fun e w' => e = .returned (.bool true) ∧ Below w.heap.size w w'))
    (HBX : Hid (k1 = 0 → ∀ w, Calls Tryd.prog 10 #[.agg #[.int .i64 k3, .float .f64 x3, .string s3], .agg #[.int .i64 k2, .float .f64 x2, .string s2]] w fun e w' => e = .returned (.bool true) ∧ Below w.heap.size w w'))
    (HBY : Hid (k1 = 0 → ∀ w, Calls Tryd.prog 10 #[.agg #[.int .i64 k5, .float .f64 x5, .string s5], .agg #[.int .i64 k2, .float .f64 x2, .string s2]] w fun e w' => e = .returned (.bool true) ∧ Below w.heap.size w w'))
    (hj : JC n m k1 k2) :
    Calls Tryd.prog 4 #[.agg #[.int .i64 k1, .float .f64 x1, .string s1], .agg #[.int .i64 k2, .float .f64 x2, .string s2]] W fun e w' => e = .returned (.bool true) ∧ Below W.heap.size W w' := by
  have hst := run_store_float
  obtain ⟨W2, hW2⟩ : ∃ W2, (W.alloc (.cells #[.int .i64 k1, .float .f64 x1, .string s1] 24)).alloc (.cells #[.int .i64 k2, .float .f64 x2, .string s2] 24) = W2 := ⟨_, rfl⟩
  have hb2 : Below W.heap.size W W2 := by rw [← hW2]; exact two_below _ _ _
  have hz2 : W2.heap.size = W.heap.size + 2 := by rw [← hW2]; simp
  have hrow : ∀ w' : World, Below W2.heap.size W2 w' → w'.cell? ⟨W.heap.size, 0, none⟩ = some (.int .i64 k1) ∧ w'.cell? ⟨W.heap.size, 1, none⟩ = some (.float .f64 x1) ∧ w'.cell? ⟨W.heap.size, 2, none⟩ = some (.string s1) ∧
      w'.cell? ⟨W.heap.size + 1, 0, none⟩ = some (.int .i64 k2) ∧ w'.cell? ⟨W.heap.size + 1, 1, none⟩ = some (.float .f64 x2) ∧ w'.cell? ⟨W.heap.size + 1, 2, none⟩ = some (.string s2) := fun w' hb => by
    have h1 : w'.heap[W.heap.size]? = some (.cells #[.int .i64 k1, .float .f64 x1, .string s1] 24 (0, 0)) := by
      rw [hb.block _ (by omega), ← hW2, Below.heap_alloc _ _ _ (by simp)]
      exact heap_alloc_new W _
    have h2 : w'.heap[W.heap.size + 1]? = some (.cells #[.int .i64 k2, .float .f64 x2, .string s2] 24 (0, 0)) := by
      rw [hb.block _ (by omega), ← hW2]
      exact heap_alloc2_new W _ _
    exact ⟨cell_of_row _ _ _ _ _ _ h1, cell_of_row _ _ _ _ _ _ h1, cell_of_row _ _ _ _ _ _ h1, cell_of_row _ _ _ _ _ _ h2, cell_of_row _ _ _ _ _ _ h2, cell_of_row _ _ _ _ _ _ h2⟩
  have Hrow := Lib.hid hrow
  have HW2 := Lib.hid hW2
  clear hrow hW2
  have hbc : Below W2.heap.size W2 W2 := Below.refl _ _
  obtain ⟨y0, y1, y2, y3, y4, y5⟩ := Hrow.out _ hbc
  go_enter Tryd.func4, Tryd.ntmps4
  go_wp2_with fail
  rw [HW2.out]
  go_wp2_with (first
  | (go_at_call 8
     (with_reducible refine (HA.out _).mono ?_)
     rintro e w2 ⟨rfl, hb2'⟩
     have hbn : Below W2.heap.size W2 w2 := by first | exact hbc.trans (hb2'.mono hbc.size) | exact (Below.drew hbc).trans (hb2'.mono hbc.size)
     clear hbc hb2' y0 y1 y2 y3 y4 y5
     have hbc := hbn
     clear hbn
     obtain ⟨y0, y1, y2, y3, y4, y5⟩ := Hrow.out _ hbc)
  | (go_at_call 8
     (with_reducible refine (HB.out _).mono ?_)
     rintro e w2 ⟨rfl, hb2'⟩
     have hbn : Below W2.heap.size W2 w2 := by first | exact hbc.trans (hb2'.mono hbc.size) | exact (Below.drew hbc).trans (hb2'.mono hbc.size)
     clear hbc hb2' y0 y1 y2 y3 y4 y5
     have hbc := hbn
     clear hbn
     obtain ⟨y0, y1, y2, y3, y4, y5⟩ := Hrow.out _ hbc)
  | (go_at_call 12
     (with_reducible refine (HKA.out _).mono ?_)
     rintro e w2 ⟨rfl, hb2'⟩
     have hbn : Below W2.heap.size W2 w2 := by first | exact hbc.trans (hb2'.mono hbc.size) | exact (Below.drew hbc).trans (hb2'.mono hbc.size)
     clear hbc hb2' y0 y1 y2 y3 y4 y5
     have hbc := hbn
     clear hbn
     obtain ⟨y0, y1, y2, y3, y4, y5⟩ := Hrow.out _ hbc)
  | (go_at_call 12
     (with_reducible refine (HKB.out _).mono ?_)
     rintro e w2 ⟨rfl, hb2'⟩
     have hbn : Below W2.heap.size W2 w2 := by first | exact hbc.trans (hb2'.mono hbc.size) | exact (Below.drew hbc).trans (hb2'.mono hbc.size)
     clear hbc hb2' y0 y1 y2 y3 y4 y5
     have hbc := hbn
     clear hbn
     obtain ⟨y0, y1, y2, y3, y4, y5⟩ := Hrow.out _ hbc))
  obtain ⟨w20, hw20⟩ : ∃ w20 : World, w20 = w2 := ⟨_, rfl⟩
  clear y0 y1 y2 y3 y4 y5
  rw [← hw20] at hbc ⊢
  go_loopg [5, 6, 7, 8, 9] 2 (fun g s5 _ _ _ _ wr => ∃ i : Nat, i + g = 2 ∧ s5 = .int .i64 i ∧ Below W2.heap.size W2 wr)
  case atStart => exact ⟨0, by omega, rfl, hbc⟩
  case round =>
    obtain ⟨i, hig, rfl, hbr⟩ := hrel
    have Hig := Lib.hid hig
    have hi : i = 0 ∨ i = 1 ∨ i = 2 := by omega
    have hzr : W2.heap.size ≤ wr.heap.size := hbr.size
    clear hig hbc hw20
    rcases hi with rfl | rfl | rfl
    case' inr.inr =>
      go_wp2_with fail
      refine (vwakes_any _).mono ?_
      rintro e w9 ⟨rfl, hb9⟩
      go_wp2_with fail
      go_ret
      exact ⟨rfl, hb2.trans ((hbr.trans (hb9.mono hzr)).mono (by omega))⟩
    all_goals
      obtain ⟨y0, y1, y2, y3, y4, y5⟩ := Hrow.out _ hbr
      go_wp2_with fail
      refine (HADD.out _).mono ?_
      rintro e w6 ⟨rfl, hb6⟩
      have hbr6 : Below W2.heap.size W2 w6 := hbr.trans (hb6.mono hzr)
      have hz6 : W2.heap.size ≤ w6.heap.size := hbr6.size
      clear y0 y1 y2 y3 y4 y5
      obtain ⟨y0, y1, y2, y3, y4, y5⟩ := Hrow.out _ hbr6
      have hn0 : W.heap.size < w6.heap.size := by omega
      have hn1 : W.heap.size + 1 < w6.heap.size := by omega
      go_wp2_with fail
      refine (HADD2.out _).mono ?_
      rintro e w7 ⟨rfl, hb7⟩
      have hbr7 : Below W2.heap.size W2 w7 := (hbr6.alloc hz6 _).trans (hb7.mono (by simp; omega))
      have hx7 : w7.heap[w6.heap.size]? = some (.cells #[.int .i64 k3, .float .f64 x3, .string s3] 24 (0, 0)) := by
        rw [hb7.block _ (by simp)]
        exact heap_alloc_new w6 _
      have hz67 : w6.heap.size < w7.heap.size := by have := hb7.size; simp at this; omega
      obtain ⟨w8, hw8⟩ : ∃ w8, w7.alloc (.cells #[.int .i64 k4, .float .f64 x4, .string s4] 24) = w8 := ⟨_, rfl⟩
      have hbr8 : Below W2.heap.size W2 w8 := by rw [← hw8]; exact hbr7.alloc (by omega) _
      have hz8 : w8.heap.size = w7.heap.size + 1 := by rw [← hw8]; simp
      have HX : Hid (w8.heap[w6.heap.size]? = some (.cells #[.int .i64 k3, .float .f64 x3, .string s3] 24 (0, 0))) := by unfold Hid; rw [← hw8, Below.heap_alloc _ _ _ hz67]; exact hx7
      have HY : Hid (w8.heap[w7.heap.size]? = some (.cells #[.int .i64 k4, .float .f64 x4, .string s4] 24 (0, 0))) := by unfold Hid; rw [← hw8]; exact heap_alloc_new w7 _
      have g0 : w7.cell? ⟨w6.heap.size, 0, none⟩ = some (.int .i64 k3) := cell_of_row _ _ _ _ _ _ hx7
      have g1 : w7.cell? ⟨w6.heap.size, 1, none⟩ = some (.float .f64 x3) := cell_of_row _ _ _ _ _ _ hx7
      have g2 : w7.cell? ⟨w6.heap.size, 2, none⟩ = some (.string s3) := cell_of_row _ _ _ _ _ _ hx7
      have Hw8 := Lib.hid hw8
      clear y0 y1 y2 y3 y4 y5 hw8 hb6 hb7 hx7
      obtain ⟨y0, y1, y2, y3, y4, y5⟩ := Hrow.out _ hbr7
      have hn2 : W.heap.size < w7.heap.size := by omega
      have hn3 : W.heap.size + 1 < w7.heap.size := by omega
      unfold JC at hj
    · have Hf : Hid (∀ w' : World, Below w8.heap.size w8 w' → w'.cell? ⟨w6.heap.size, 0, none⟩ = some (.int .i64 k3) ∧ w'.cell? ⟨w6.heap.size, 1, none⟩ = some (.float .f64 x3) ∧ w'.cell? ⟨w6.heap.size, 2, none⟩ = some (.string s3) ∧
            w'.cell? ⟨w7.heap.size, 0, none⟩ = some (.int .i64 k4) ∧ w'.cell? ⟨w7.heap.size, 1, none⟩ = some (.float .f64 x4) ∧ w'.cell? ⟨w7.heap.size, 2, none⟩ = some (.string s4)) := fun w' h => by
          have h1 := (h.block w6.heap.size (by omega)).trans HX.out
          have h2 := (h.block w7.heap.size (by omega)).trans HY.out
          exact ⟨cell_of_row _ _ _ _ _ _ h1, cell_of_row _ _ _ _ _ _ h1, cell_of_row _ _ _ _ _ _ h1, cell_of_row _ _ _ _ _ _ h2, cell_of_row _ _ _ _ _ _ h2, cell_of_row _ _ _ _ _ _ h2⟩
      rcases hj with ⟨rfl, j1, rfl | rfl⟩ | ⟨rfl, rfl, rfl, j2⟩ | ⟨rfl, rfl, rfl, rfl⟩ | ⟨rfl, rfl, rfl, rfl⟩
      all_goals
        go_wp2_with fail
        rw [Hw8.out]
        clear g0 g1 g2 y0 y1 y2 y3 y4 y5
        obtain ⟨y0, y1, y2, y3, y4, y5⟩ := Hrow.out _ hbr8
        have hbq : Below w8.heap.size w8 w8 := Below.refl _ _
        obtain ⟨z0, z1, z2, z3, z4, z5⟩ := Hf.out _ hbq
        go_wp2_with (first
          | (go_at_call 12; (with_reducible refine (HCX.out (by decide) _).mono ?_); rintro e w2 ⟨rfl, hb2'⟩; (have hbn : Below w8.heap.size w8 w2 := hbq.trans (hb2'.mono hbq.size)); clear hbq hb2' y0 y1 y2 y3 y4 y5 z0 z1 z2 z3 z4 z5; have hbq := hbn; clear hbn; obtain ⟨y0, y1, y2, y3, y4, y5⟩ := Hrow.out _ (hbr8.trans (hbq.mono hbr8.size)); obtain ⟨z0, z1, z2, z3, z4, z5⟩ := Hf.out _ hbq)
          | (go_at_call 10; (with_reducible refine (HSX.out (by decide) (by decide) _).mono ?_); rintro e w2 ⟨rfl, hb2'⟩; (have hbn : Below w8.heap.size w8 w2 := hbq.trans (hb2'.mono hbq.size)); clear hbq hb2' y0 y1 y2 y3 y4 y5 z0 z1 z2 z3 z4 z5; have hbq := hbn; clear hbn; obtain ⟨y0, y1, y2, y3, y4, y5⟩ := Hrow.out _ (hbr8.trans (hbq.mono hbr8.size)); obtain ⟨z0, z1, z2, z3, z4, z5⟩ := Hf.out _ hbq)
          | (go_at_call 10; (with_reducible refine (HBX.out (by decide) _).mono ?_); rintro e w2 ⟨rfl, hb2'⟩; (have hbn : Below w8.heap.size w8 w2 := hbq.trans (hb2'.mono hbq.size)); clear hbq hb2' y0 y1 y2 y3 y4 y5 z0 z1 z2 z3 z4 z5; have hbq := hbn; clear hbn; obtain ⟨y0, y1, y2, y3, y4, y5⟩ := Hrow.out _ (hbr8.trans (hbq.mono hbr8.size)); obtain ⟨z0, z1, z2, z3, z4, z5⟩ := Hf.out _ hbq))
        all_goals try (
          have r0 := cell_regrown y0
          have r1 := cell_regrown y1
          have r2 := cell_regrown y2
          have r3 := cell_regrown y3
          have r4 := cell_regrown y4
          have r5 := cell_regrown y5
          have q0 := cell_regrown z0
          have q1 := cell_regrown z1
          have q2 := cell_regrown z2
          have q3 := cell_regrown z3
          have q4 := cell_regrown z4
          have q5 := cell_regrown z5
          with_reducible refine wp_region_quiet_below (by kernel_rfl) (by kernel_rfl) ?_
          repeat (with_reducible refine wpQuiet_step ?_; intro K hK; go_simp; first | (with_reducible refine hK _ ?_; clear hK K) | (rw [if_neg (by first | decide | (simp [undef]) | (intro h; cases h))]; with_reducible refine hK _ ?_; clear hK K) | (apply Exists.intro; with_reducible refine ⟨fun _ => ?_, hK _ ?_⟩; (first | (with_reducible exact Calls.regrown_of (HCX.out (by decide) _)) | (with_reducible exact Calls.regrown_of (HSX.out (by decide) (by decide) _)) | (with_reducible exact Calls.regrown_of (HBX.out (by decide) _))); clear hK K))
          with_reducible refine wpQuiet_nil ?_
          intro w9 hw9
          have hbn : Below w8.heap.size w8 w9 := hbq.trans (by
            obtain ⟨⟨dq, osq⟩, hw''⟩ := hw9
            rw [hw'']
            exact (below_regrown _ _ _).mono hbq.size)
          clear hw9 hbq y0 y1 y2 y3 y4 y5 z0 z1 z2 z3 z4 z5 r0 r1 r2 r3 r4 r5 q0 q1 q2 q3 q4 q5
          have hbq := hbn
          clear hbn
          obtain ⟨y0, y1, y2, y3, y4, y5⟩ := Hrow.out _ (hbr8.trans (hbq.mono hbr8.size))
          obtain ⟨z0, z1, z2, z3, z4, z5⟩ := Hf.out _ hbq)
        all_goals go_wp2_with (first
          | (go_at_call 12; (with_reducible refine (HCX.out (by decide) _).mono ?_); rintro e w2 ⟨rfl, hb2'⟩; (have hbn : Below w8.heap.size w8 w2 := hbq.trans (hb2'.mono hbq.size)); clear hbq hb2' y0 y1 y2 y3 y4 y5 z0 z1 z2 z3 z4 z5; have hbq := hbn; clear hbn; obtain ⟨y0, y1, y2, y3, y4, y5⟩ := Hrow.out _ (hbr8.trans (hbq.mono hbr8.size)); obtain ⟨z0, z1, z2, z3, z4, z5⟩ := Hf.out _ hbq)
          | (go_at_call 10; (with_reducible refine (HSX.out (by decide) (by decide) _).mono ?_); rintro e w2 ⟨rfl, hb2'⟩; (have hbn : Below w8.heap.size w8 w2 := hbq.trans (hb2'.mono hbq.size)); clear hbq hb2' y0 y1 y2 y3 y4 y5 z0 z1 z2 z3 z4 z5; have hbq := hbn; clear hbn; obtain ⟨y0, y1, y2, y3, y4, y5⟩ := Hrow.out _ (hbr8.trans (hbq.mono hbr8.size)); obtain ⟨z0, z1, z2, z3, z4, z5⟩ := Hf.out _ hbq)
          | (go_at_call 10; (with_reducible refine (HBX.out (by decide) _).mono ?_); rintro e w2 ⟨rfl, hb2'⟩; (have hbn : Below w8.heap.size w8 w2 := hbq.trans (hb2'.mono hbq.size)); clear hbq hb2' y0 y1 y2 y3 y4 y5 z0 z1 z2 z3 z4 z5; have hbq := hbn; clear hbn; obtain ⟨y0, y1, y2, y3, y4, y5⟩ := Hrow.out _ (hbr8.trans (hbq.mono hbr8.size)); obtain ⟨z0, z1, z2, z3, z4, z5⟩ := Hf.out _ hbq))
        all_goals try (
          have r0 := cell_regrown y0
          have r1 := cell_regrown y1
          have r2 := cell_regrown y2
          have r3 := cell_regrown y3
          have r4 := cell_regrown y4
          have r5 := cell_regrown y5
          have q0 := cell_regrown z0
          have q1 := cell_regrown z1
          have q2 := cell_regrown z2
          have q3 := cell_regrown z3
          have q4 := cell_regrown z4
          have q5 := cell_regrown z5
          with_reducible refine wp_region_quiet_below (by kernel_rfl) (by kernel_rfl) ?_
          repeat (with_reducible refine wpQuiet_step ?_; intro K hK; go_simp; first | (with_reducible refine hK _ ?_; clear hK K) | (rw [if_neg (by first | decide | (simp [undef]) | (intro h; cases h))]; with_reducible refine hK _ ?_; clear hK K) | (apply Exists.intro; with_reducible refine ⟨fun _ => ?_, hK _ ?_⟩; (first | (with_reducible exact Calls.regrown_of (HCX.out (by decide) _)) | (with_reducible exact Calls.regrown_of (HSX.out (by decide) (by decide) _)) | (with_reducible exact Calls.regrown_of (HBX.out (by decide) _))); clear hK K))
          with_reducible refine wpQuiet_nil ?_
          intro w9 hw9
          have hbn : Below w8.heap.size w8 w9 := hbq.trans (by
            obtain ⟨⟨dq, osq⟩, hw''⟩ := hw9
            rw [hw'']
            exact (below_regrown _ _ _).mono hbq.size)
          clear hw9 hbq y0 y1 y2 y3 y4 y5 z0 z1 z2 z3 z4 z5 r0 r1 r2 r3 r4 r5 q0 q1 q2 q3 q4 q5
          have hbq := hbn
          clear hbn
          obtain ⟨y0, y1, y2, y3, y4, y5⟩ := Hrow.out _ (hbr8.trans (hbq.mono hbr8.size))
          obtain ⟨z0, z1, z2, z3, z4, z5⟩ := Hf.out _ hbq)
        all_goals go_wp2_with (first
          | (go_at_call 12; (with_reducible refine (HCX.out (by decide) _).mono ?_); rintro e w2 ⟨rfl, hb2'⟩; (have hbn : Below w8.heap.size w8 w2 := hbq.trans (hb2'.mono hbq.size)); clear hbq hb2' y0 y1 y2 y3 y4 y5 z0 z1 z2 z3 z4 z5; have hbq := hbn; clear hbn; obtain ⟨y0, y1, y2, y3, y4, y5⟩ := Hrow.out _ (hbr8.trans (hbq.mono hbr8.size)); obtain ⟨z0, z1, z2, z3, z4, z5⟩ := Hf.out _ hbq)
          | (go_at_call 10; (with_reducible refine (HSX.out (by decide) (by decide) _).mono ?_); rintro e w2 ⟨rfl, hb2'⟩; (have hbn : Below w8.heap.size w8 w2 := hbq.trans (hb2'.mono hbq.size)); clear hbq hb2' y0 y1 y2 y3 y4 y5 z0 z1 z2 z3 z4 z5; have hbq := hbn; clear hbn; obtain ⟨y0, y1, y2, y3, y4, y5⟩ := Hrow.out _ (hbr8.trans (hbq.mono hbr8.size)); obtain ⟨z0, z1, z2, z3, z4, z5⟩ := Hf.out _ hbq)
          | (go_at_call 10; (with_reducible refine (HBX.out (by decide) _).mono ?_); rintro e w2 ⟨rfl, hb2'⟩; (have hbn : Below w8.heap.size w8 w2 := hbq.trans (hb2'.mono hbq.size)); clear hbq hb2' y0 y1 y2 y3 y4 y5 z0 z1 z2 z3 z4 z5; have hbq := hbn; clear hbn; obtain ⟨y0, y1, y2, y3, y4, y5⟩ := Hrow.out _ (hbr8.trans (hbq.mono hbr8.size)); obtain ⟨z0, z1, z2, z3, z4, z5⟩ := Hf.out _ hbq))
        go_roundg (gk - 1)
        case rel => exact ⟨1, by have := Hig.out; omega, by go_num, hbr8.trans (hbq.mono hbr8.size)⟩
        case measure => have := Hig.out; omega

    · go_wp2_with fail
      rw [Hw8.out]
      refine (HMAX.out _).mono ?_
      rintro e w9 ⟨rfl, hb9⟩
      have hbr9 : Below W2.heap.size W2 w9 := hbr8.trans (hb9.mono hbr8.size)
      have hz89 : w8.heap.size ≤ w9.heap.size := hb9.size
      clear y0 y1 y2 y3 y4 y5 g0 g1 g2
      have HX9 : Hid (w9.heap[w6.heap.size]? = some (.cells #[.int .i64 k3, .float .f64 x3, .string s3] 24 (0, 0))) := (hb9.block _ (by omega)).trans HX.out
      have HY9 : Hid (w9.heap[w7.heap.size]? = some (.cells #[.int .i64 k4, .float .f64 x4, .string s4] 24 (0, 0))) := (hb9.block _ (by omega)).trans HY.out
      have hbrs : Below W2.heap.size W2 (w9.setRow w6.heap.size #[.int .i64 k5, .float .f64 x5, .string s5]) := below_setRow hbr9 hz6 _
      obtain ⟨y0, y1, y2, y3, y4, y5⟩ := Hrow.out _ hbrs
      clear HX HY Hw8 hb9
      go_wp2_with (refine wpList_store_row rfl 24 (.tmp 6) (.tmp 48) rfl w6.heap.size #[.int .i64 k5, .float .f64 x5, .string s5] rfl rfl 24 _ HX9.out size3 rfl (val_one _ _ _) ?_)
      refine (HMAX2.out _).mono ?_
      rintro e w10 ⟨rfl, hb10⟩
      have hsz : (w9.setRow w6.heap.size #[.int .i64 k5, .float .f64 x5, .string s5]).heap.size = w9.heap.size := by simp [World.setRow]
      have hbr10 : Below W2.heap.size W2 w10 := hbrs.trans (hb10.mono hbrs.size)
      have hz10 : w9.heap.size ≤ w10.heap.size := by have := hb10.size; omega
      have HX10 : Hid (w10.heap[w6.heap.size]? = some (.cells #[.int .i64 k5, .float .f64 x5, .string s5] 24 (0, 0))) := (hb10.block _ (by omega)).trans (setRow_heap _ _ _ _ _ _ HX9.out)
      have HY10 : Hid (w10.heap[w7.heap.size]? = some (.cells #[.int .i64 k4, .float .f64 x4, .string s4] 24 (0, 0))) := (hb10.block _ (by omega)).trans (setRow_offv HY9.out (by omega) _)
      clear y0 y1 y2 y3 y4 y5 hb10 hbr8 hbr7
      have hbr8 : Below W2.heap.size W2 (w10.setRow w7.heap.size #[.int .i64 k6, .float .f64 x6, .string s6]) := below_setRow hbr10 (by omega) _
      have HX : Hid ((w10.setRow w7.heap.size #[.int .i64 k6, .float .f64 x6, .string s6]).heap[w6.heap.size]? = some (.cells #[.int .i64 k5, .float .f64 x5, .string s5] 24 (0, 0))) := setRow_offv HX10.out (by omega) _
      have HY : Hid ((w10.setRow w7.heap.size #[.int .i64 k6, .float .f64 x6, .string s6]).heap[w7.heap.size]? = some (.cells #[.int .i64 k6, .float .f64 x6, .string s6] 24 (0, 0))) := setRow_heap _ _ _ _ _ _ HY10.out
      have hz11 : (w10.setRow w7.heap.size #[.int .i64 k6, .float .f64 x6, .string s6]).heap.size = w10.heap.size := by simp [World.setRow]
      obtain ⟨w11, hw11⟩ : ∃ w11, w10.setRow w7.heap.size #[.int .i64 k6, .float .f64 x6, .string s6] = w11 := ⟨_, rfl⟩
      have Hw11 := Lib.hid hw11
      have q0 := cell_of_row _ _ 0 _ _ _ HX.out
      rw [hw11] at hbr8 HX HY hz11
      clear q0
      have Hf : Hid (∀ w' : World, Below w11.heap.size w11 w' → w'.cell? ⟨w6.heap.size, 0, none⟩ = some (.int .i64 k5) ∧ w'.cell? ⟨w6.heap.size, 1, none⟩ = some (.float .f64 x5) ∧ w'.cell? ⟨w6.heap.size, 2, none⟩ = some (.string s5) ∧
          w'.cell? ⟨w7.heap.size, 0, none⟩ = some (.int .i64 k6) ∧ w'.cell? ⟨w7.heap.size, 1, none⟩ = some (.float .f64 x6) ∧ w'.cell? ⟨w7.heap.size, 2, none⟩ = some (.string s6)) := fun w' h => by
        have h1 := (h.block w6.heap.size (by omega)).trans HX.out
        have h2 := (h.block w7.heap.size (by omega)).trans HY.out
        exact ⟨cell_of_row _ _ _ _ _ _ h1, cell_of_row _ _ _ _ _ _ h1, cell_of_row _ _ _ _ _ _ h1, cell_of_row _ _ _ _ _ _ h2, cell_of_row _ _ _ _ _ _ h2, cell_of_row _ _ _ _ _ _ h2⟩
      obtain ⟨z0, z1, z2, z3, z4, z5⟩ := Hf.out _ (Below.refl _ _)
      obtain ⟨y0, y1, y2, y3, y4, y5⟩ := Hrow.out _ hbr8
      rw [← hw11] at z0 z1 z2 z3 z4 z5 y0 y1 y2 y3 y4 y5
      clear hw11
      rcases hj with ⟨rfl, j1, rfl | rfl⟩ | ⟨rfl, rfl, rfl, j2⟩ | ⟨rfl, rfl, rfl, rfl⟩ | ⟨rfl, rfl, rfl, rfl⟩
      all_goals
        go_wp2_with (refine wpList_store_row rfl 24 (.tmp 8) (.tmp 54) rfl w7.heap.size #[.int .i64 k6, .float .f64 x6, .string s6] rfl rfl 24 _ HY10.out size3 rfl (val_one _ _ _) ?_)
        rw [Hw11.out]
        clear y0 y1 y2 y3 y4 y5 z0 z1 z2 z3 z4 z5
        obtain ⟨y0, y1, y2, y3, y4, y5⟩ := Hrow.out _ hbr8
        have hbq : Below w11.heap.size w11 w11 := Below.refl _ _
        obtain ⟨z0, z1, z2, z3, z4, z5⟩ := Hf.out _ hbq
        go_wp2_with (first
          | (go_at_call 12; (with_reducible refine (HCY.out (by decide) _).mono ?_); rintro e w2 ⟨rfl, hb2'⟩; (have hbn : Below w11.heap.size w11 w2 := hbq.trans (hb2'.mono hbq.size)); clear hbq hb2' y0 y1 y2 y3 y4 y5 z0 z1 z2 z3 z4 z5; have hbq := hbn; clear hbn; obtain ⟨y0, y1, y2, y3, y4, y5⟩ := Hrow.out _ (hbr8.trans (hbq.mono hbr8.size)); obtain ⟨z0, z1, z2, z3, z4, z5⟩ := Hf.out _ hbq)
          | (go_at_call 10; (with_reducible refine (HSY.out (by decide) (by decide) _).mono ?_); rintro e w2 ⟨rfl, hb2'⟩; (have hbn : Below w11.heap.size w11 w2 := hbq.trans (hb2'.mono hbq.size)); clear hbq hb2' y0 y1 y2 y3 y4 y5 z0 z1 z2 z3 z4 z5; have hbq := hbn; clear hbn; obtain ⟨y0, y1, y2, y3, y4, y5⟩ := Hrow.out _ (hbr8.trans (hbq.mono hbr8.size)); obtain ⟨z0, z1, z2, z3, z4, z5⟩ := Hf.out _ hbq)
          | (go_at_call 10; (with_reducible refine (HBY.out (by decide) _).mono ?_); rintro e w2 ⟨rfl, hb2'⟩; (have hbn : Below w11.heap.size w11 w2 := hbq.trans (hb2'.mono hbq.size)); clear hbq hb2' y0 y1 y2 y3 y4 y5 z0 z1 z2 z3 z4 z5; have hbq := hbn; clear hbn; obtain ⟨y0, y1, y2, y3, y4, y5⟩ := Hrow.out _ (hbr8.trans (hbq.mono hbr8.size)); obtain ⟨z0, z1, z2, z3, z4, z5⟩ := Hf.out _ hbq))
        all_goals try (
          have r0 := cell_regrown y0
          have r1 := cell_regrown y1
          have r2 := cell_regrown y2
          have r3 := cell_regrown y3
          have r4 := cell_regrown y4
          have r5 := cell_regrown y5
          have q0 := cell_regrown z0
          have q1 := cell_regrown z1
          have q2 := cell_regrown z2
          have q3 := cell_regrown z3
          have q4 := cell_regrown z4
          have q5 := cell_regrown z5
          with_reducible refine wp_region_quiet_below (by kernel_rfl) (by kernel_rfl) ?_
          repeat (with_reducible refine wpQuiet_step ?_; intro K hK; go_simp; first | (with_reducible refine hK _ ?_; clear hK K) | (rw [if_neg (by first | decide | (simp [undef]) | (intro h; cases h))]; with_reducible refine hK _ ?_; clear hK K) | (apply Exists.intro; with_reducible refine ⟨fun _ => ?_, hK _ ?_⟩; (first | (with_reducible exact Calls.regrown_of (HCY.out (by decide) _)) | (with_reducible exact Calls.regrown_of (HSY.out (by decide) (by decide) _)) | (with_reducible exact Calls.regrown_of (HBY.out (by decide) _))); clear hK K))
          with_reducible refine wpQuiet_nil ?_
          intro w9 hw9
          have hbn : Below w11.heap.size w11 w9 := hbq.trans (by
            obtain ⟨⟨dq, osq⟩, hw''⟩ := hw9
            rw [hw'']
            exact (below_regrown _ _ _).mono hbq.size)
          clear hw9 hbq y0 y1 y2 y3 y4 y5 z0 z1 z2 z3 z4 z5 r0 r1 r2 r3 r4 r5 q0 q1 q2 q3 q4 q5
          have hbq := hbn
          clear hbn
          obtain ⟨y0, y1, y2, y3, y4, y5⟩ := Hrow.out _ (hbr8.trans (hbq.mono hbr8.size))
          obtain ⟨z0, z1, z2, z3, z4, z5⟩ := Hf.out _ hbq)
        all_goals go_wp2_with (first
          | (go_at_call 12; (with_reducible refine (HCY.out (by decide) _).mono ?_); rintro e w2 ⟨rfl, hb2'⟩; (have hbn : Below w11.heap.size w11 w2 := hbq.trans (hb2'.mono hbq.size)); clear hbq hb2' y0 y1 y2 y3 y4 y5 z0 z1 z2 z3 z4 z5; have hbq := hbn; clear hbn; obtain ⟨y0, y1, y2, y3, y4, y5⟩ := Hrow.out _ (hbr8.trans (hbq.mono hbr8.size)); obtain ⟨z0, z1, z2, z3, z4, z5⟩ := Hf.out _ hbq)
          | (go_at_call 10; (with_reducible refine (HSY.out (by decide) (by decide) _).mono ?_); rintro e w2 ⟨rfl, hb2'⟩; (have hbn : Below w11.heap.size w11 w2 := hbq.trans (hb2'.mono hbq.size)); clear hbq hb2' y0 y1 y2 y3 y4 y5 z0 z1 z2 z3 z4 z5; have hbq := hbn; clear hbn; obtain ⟨y0, y1, y2, y3, y4, y5⟩ := Hrow.out _ (hbr8.trans (hbq.mono hbr8.size)); obtain ⟨z0, z1, z2, z3, z4, z5⟩ := Hf.out _ hbq)
          | (go_at_call 10; (with_reducible refine (HBY.out (by decide) _).mono ?_); rintro e w2 ⟨rfl, hb2'⟩; (have hbn : Below w11.heap.size w11 w2 := hbq.trans (hb2'.mono hbq.size)); clear hbq hb2' y0 y1 y2 y3 y4 y5 z0 z1 z2 z3 z4 z5; have hbq := hbn; clear hbn; obtain ⟨y0, y1, y2, y3, y4, y5⟩ := Hrow.out _ (hbr8.trans (hbq.mono hbr8.size)); obtain ⟨z0, z1, z2, z3, z4, z5⟩ := Hf.out _ hbq))
        all_goals try (
          have r0 := cell_regrown y0
          have r1 := cell_regrown y1
          have r2 := cell_regrown y2
          have r3 := cell_regrown y3
          have r4 := cell_regrown y4
          have r5 := cell_regrown y5
          have q0 := cell_regrown z0
          have q1 := cell_regrown z1
          have q2 := cell_regrown z2
          have q3 := cell_regrown z3
          have q4 := cell_regrown z4
          have q5 := cell_regrown z5
          with_reducible refine wp_region_quiet_below (by kernel_rfl) (by kernel_rfl) ?_
          repeat (with_reducible refine wpQuiet_step ?_; intro K hK; go_simp; first | (with_reducible refine hK _ ?_; clear hK K) | (rw [if_neg (by first | decide | (simp [undef]) | (intro h; cases h))]; with_reducible refine hK _ ?_; clear hK K) | (apply Exists.intro; with_reducible refine ⟨fun _ => ?_, hK _ ?_⟩; (first | (with_reducible exact Calls.regrown_of (HCY.out (by decide) _)) | (with_reducible exact Calls.regrown_of (HSY.out (by decide) (by decide) _)) | (with_reducible exact Calls.regrown_of (HBY.out (by decide) _))); clear hK K))
          with_reducible refine wpQuiet_nil ?_
          intro w9 hw9
          have hbn : Below w11.heap.size w11 w9 := hbq.trans (by
            obtain ⟨⟨dq, osq⟩, hw''⟩ := hw9
            rw [hw'']
            exact (below_regrown _ _ _).mono hbq.size)
          clear hw9 hbq y0 y1 y2 y3 y4 y5 z0 z1 z2 z3 z4 z5 r0 r1 r2 r3 r4 r5 q0 q1 q2 q3 q4 q5
          have hbq := hbn
          clear hbn
          obtain ⟨y0, y1, y2, y3, y4, y5⟩ := Hrow.out _ (hbr8.trans (hbq.mono hbr8.size))
          obtain ⟨z0, z1, z2, z3, z4, z5⟩ := Hf.out _ hbq)
        all_goals go_wp2_with (first
          | (go_at_call 12; (with_reducible refine (HCY.out (by decide) _).mono ?_); rintro e w2 ⟨rfl, hb2'⟩; (have hbn : Below w11.heap.size w11 w2 := hbq.trans (hb2'.mono hbq.size)); clear hbq hb2' y0 y1 y2 y3 y4 y5 z0 z1 z2 z3 z4 z5; have hbq := hbn; clear hbn; obtain ⟨y0, y1, y2, y3, y4, y5⟩ := Hrow.out _ (hbr8.trans (hbq.mono hbr8.size)); obtain ⟨z0, z1, z2, z3, z4, z5⟩ := Hf.out _ hbq)
          | (go_at_call 10; (with_reducible refine (HSY.out (by decide) (by decide) _).mono ?_); rintro e w2 ⟨rfl, hb2'⟩; (have hbn : Below w11.heap.size w11 w2 := hbq.trans (hb2'.mono hbq.size)); clear hbq hb2' y0 y1 y2 y3 y4 y5 z0 z1 z2 z3 z4 z5; have hbq := hbn; clear hbn; obtain ⟨y0, y1, y2, y3, y4, y5⟩ := Hrow.out _ (hbr8.trans (hbq.mono hbr8.size)); obtain ⟨z0, z1, z2, z3, z4, z5⟩ := Hf.out _ hbq)
          | (go_at_call 10; (with_reducible refine (HBY.out (by decide) _).mono ?_); rintro e w2 ⟨rfl, hb2'⟩; (have hbn : Below w11.heap.size w11 w2 := hbq.trans (hb2'.mono hbq.size)); clear hbq hb2' y0 y1 y2 y3 y4 y5 z0 z1 z2 z3 z4 z5; have hbq := hbn; clear hbn; obtain ⟨y0, y1, y2, y3, y4, y5⟩ := Hrow.out _ (hbr8.trans (hbq.mono hbr8.size)); obtain ⟨z0, z1, z2, z3, z4, z5⟩ := Hf.out _ hbq))
        go_roundg (gk - 1)
        case rel => exact ⟨2, by have := Hig.out; omega, by go_num, hbr8.trans (hbq.mono hbr8.size)⟩
        case measure => have := Hig.out; omega

end Go.Proofs.YtpndhfnoppkmgaaDoor
