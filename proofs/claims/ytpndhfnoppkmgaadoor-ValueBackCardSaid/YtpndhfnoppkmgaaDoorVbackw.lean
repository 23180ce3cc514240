/-
  ValueBack, of any two values.
-/
import Derived.Test.YtpndhfnoppkmgaaDoorVback
namespace Go.Proofs.YtpndhfnoppkmgaaDoor
open Go.RowKit
set_option maxRecDepth 100000
set_option maxHeartbeats 3200000 in
theorem back_early (k1 : Int) (x1 : Nat) (s1 : ByteArray) (k2 : Int) (x2 : Nat) (s2 : ByteArray) (ha hb : Bool) (c : Int) (W : World) (h : ha = true ∨ hb = true ∨ c = 8 ∨ c = 2 ∨ c = 15)
    (HA : Hid (∀ w, Calls Tryd.prog 8 #[.agg #[.int .i64 k1, .float .f64 x1, .string s1]] w fun e w' => e = .returned (.bool ha) ∧ Below w.heap.size w w'))
    (HB : Hid (∀ w, Calls Tryd.prog 8 #[.agg #[.int .i64 k2, .float .f64 x2, .string s2]] w fun e w' => e = .returned (.bool hb) ∧ Below w.heap.size w w'))
    (HC : Hid (∀ w, Calls Tryd.prog 12 #[.agg #[.int .i64 k1, .float .f64 x1, .string s1]] w fun e w' => e = .returned (.int .i64 c) ∧ Below w.heap.size w w')) :
    Calls Tryd.prog 7 #[.agg #[.int .i64 k1, .float .f64 x1, .string s1], .agg #[.int .i64 k2, .float .f64 x2, .string s2]] W fun e w' => e = .returned (.bool true) ∧ Below W.heap.size W w' := by
  obtain ⟨W2, hW2⟩ : ∃ W2, (W.alloc (.cells #[.int .i64 k1, .float .f64 x1, .string s1] 24)).alloc (.cells #[.int .i64 k2, .float .f64 x2, .string s2] 24) = W2 := ⟨_, rfl⟩
  have hb2 : Below W.heap.size W W2 := by rw [← hW2]; exact two_below _ _ _
  have hz2 : W2.heap.size = W.heap.size + 2 := by rw [← hW2]; simp
  have Hrow : Hid (∀ w' : World, Below W2.heap.size W2 w' → w'.cell? ⟨W.heap.size, 0, none⟩ = some (.int .i64 k1) ∧ w'.cell? ⟨W.heap.size, 1, none⟩ = some (.float .f64 x1) ∧ w'.cell? ⟨W.heap.size, 2, none⟩ = some (.string s1) ∧
      w'.cell? ⟨W.heap.size + 1, 0, none⟩ = some (.int .i64 k2) ∧ w'.cell? ⟨W.heap.size + 1, 1, none⟩ = some (.float .f64 x2) ∧ w'.cell? ⟨W.heap.size + 1, 2, none⟩ = some (.string s2)) := fun w' hb => by
    have h1 : w'.heap[W.heap.size]? = some (.cells #[.int .i64 k1, .float .f64 x1, .string s1] 24 (0, 0)) := by
      rw [hb.block _ (by omega), ← hW2, Below.heap_alloc _ _ _ (by simp)]
      exact heap_alloc_new W _
    have h2 : w'.heap[W.heap.size + 1]? = some (.cells #[.int .i64 k2, .float .f64 x2, .string s2] 24 (0, 0)) := by
      rw [hb.block _ (by omega), ← hW2]
      exact heap_alloc2_new W _ _
    exact ⟨cell_of_row _ _ _ _ _ _ h1, cell_of_row _ _ _ _ _ _ h1, cell_of_row _ _ _ _ _ _ h1, cell_of_row _ _ _ _ _ _ h2, cell_of_row _ _ _ _ _ _ h2, cell_of_row _ _ _ _ _ _ h2⟩
  have HW2 := Lib.hid hW2
  clear hW2
  have hbq : Below W2.heap.size W2 W2 := Below.refl _ _
  obtain ⟨y0, y1, y2, y3, y4, y5⟩ := Hrow.out _ hbq
  cases ha
  case' false => cases hb
  case' false.false => rcases h with h | h | rfl | rfl | rfl
  case false.false.inl => cases h
  case false.false.inr.inl => cases h
  all_goals
    go_enter Tryd.func7, Tryd.ntmps7
    go_wp2_with fail
    rw [HW2.out]
    go_wp2_with (first
      | (go_at_call 8; (with_reducible refine (HA.out _).mono ?_); rintro e w2 ⟨rfl, hb2'⟩; (have hbn : Below W2.heap.size W2 w2 := hbq.trans (hb2'.mono hbq.size)); clear hbq hb2' y0 y1 y2 y3 y4 y5; have hbq := hbn; clear hbn; obtain ⟨y0, y1, y2, y3, y4, y5⟩ := Hrow.out _ (hbq))
      | (go_at_call 8; (with_reducible refine (HB.out _).mono ?_); rintro e w2 ⟨rfl, hb2'⟩; (have hbn : Below W2.heap.size W2 w2 := hbq.trans (hb2'.mono hbq.size)); clear hbq hb2' y0 y1 y2 y3 y4 y5; have hbq := hbn; clear hbn; obtain ⟨y0, y1, y2, y3, y4, y5⟩ := Hrow.out _ (hbq))
      | (go_at_call 12; (with_reducible refine (HC.out _).mono ?_); rintro e w2 ⟨rfl, hb2'⟩; (have hbn : Below W2.heap.size W2 w2 := hbq.trans (hb2'.mono hbq.size)); clear hbq hb2' y0 y1 y2 y3 y4 y5; have hbq := hbn; clear hbn; obtain ⟨y0, y1, y2, y3, y4, y5⟩ := Hrow.out _ (hbq)))
    go_ret
    exact ⟨rfl, hb2.trans (hbq.mono (by omega))⟩
theorem back_walk (a b : Va) (W : World) (ha : a.x < 18446744073709551616) (hb : b.x < 18446744073709551616) (sa : a.s.size ≤ maxLen) (sb : b.s.size ≤ maxLen) (hT : TzAt W) (hE : ErrAt W) :
    Calls Tryd.prog 7 #[a.v, b.v] W fun e w' => e = .returned (.bool true) ∧ Below W.heap.size W w' := by
  have HA := fun w => vheavy_any a w sa
  have HB := fun w => vheavy_any b w sb
  have HC := fun w => VCheck_any a w ha sa
  have early : (decide (2000 < a.s.size) = true ∨ decide (2000 < b.s.size) = true ∨ chkVa a = 8 ∨ chkVa a = 2 ∨ chkVa a = 15) → Calls Tryd.prog 7 #[a.v, b.v] W fun e w' => e = .returned (.bool true) ∧ Below W.heap.size W w' := fun h =>
    back_early a.k a.x a.s b.k b.x b.s _ _ _ W h HA HB HC
  rcases Decidable.em (2000 < a.s.size) with h1 | h1
  · exact early (.inl (decide_eq_true h1))
  rcases Decidable.em (2000 < b.s.size) with h2 | h2
  · exact early (.inr (.inl (decide_eq_true h2)))
  rcases chk_vals a with hc | hc | hc | hc
  rotate_left
  · exact early (.inr (.inr (.inl hc)))
  · exact early (.inr (.inr (.inr (.inl hc))))
  · exact early (.inr (.inr (.inr (.inr hc))))
  rw [decide_eq_false h1] at HA
  rw [decide_eq_false h2] at HB
  rw [hc] at HC
  obtain ⟨p1, p2⟩ := pv_back hc ha
  have hz : (vtextV a).size ≤ 4000 := by
    have h3 : (pvV (vtextV a).data.toList).s.size ≤ 32 := (pv_reads p1).2.2.2
    rw [p2] at h3
    have hl : ∀ s : ByteArray, s.data.toList.length = s.size := fun s => Array.length_toList
    unfold vtextV
    split
    · unfold textV
      show (⟨[110].toArray⟩ ++ ⟨(hexL 16 (canon a.x)).toArray⟩ : ByteArray).size ≤ 4000
      rw [bytes_app, str_size, List.length_append, hexL_len]
      simp
    · split
      · rw [str_size, List.length_cons, hexT_len, hl]
        omega
      · decide
  refine back_main a.k a.x a.s b.k b.x b.s (vtextV a) (if chkVa b = 0 then vtextV b else ⟨#[]⟩) (chkVa b) (sameVa a b) W (chk_vals b) HA HB HC ?_ ?_ ?_ ?_ ?_ ?_
  · intro w hw
    have := VText_any a w ha sa (hT.below hw)
    rw [hc, if_pos rfl] at this
    exact this
  · intro w hw
    have := VParse_any (vtextV a) w hz (hT.below hw) (hE.below hw)
    unfold PvPost at this
    rw [p1, p2] at this
    exact this
  · intro w
    have := VSame_any a a w ha ha
    rw [sameVa_self] at this
    exact this
  · exact fun w hw => VText_any b w hb sb (hT.below hw)
  · exact fun w => VSame_any a b w ha hb
  · intro h
    rw [if_pos h]
    exact sameVa_text hc h ha hb
end Go.Proofs.YtpndhfnoppkmgaaDoor
