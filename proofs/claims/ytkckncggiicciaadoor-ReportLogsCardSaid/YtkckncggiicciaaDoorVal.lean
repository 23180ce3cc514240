/-
  Values: their walks: the same, ahead, right.
-/
import Derived.Test.YtkckncggiicciaaDoorText
import Derived.Deep.RegionWith
namespace Go.Proofs.YtkckncggiicciaaDoor
open Go.RowKit
set_option maxRecDepth 100000
/-- A value. -/
structure Va where
  k : Int
  x : Nat
  s : ByteArray
/-- As it is handed over. -/
def Va.v (a : Va) : Value := .agg #[.int .i64 a.k, .float .f64 a.x, .string a.s]
def eqS (s t : ByteArray) : Bool := s.toList == t.toList
def sameVa (a b : Va) : Bool := a.k == b.k && (sameB a.x b.x && eqS a.s b.s)
def lessVa (a b : Va) : Bool := if a.k ≠ b.k then decide (a.k < b.k) else if sameB a.x b.x = false then lessB a.x b.x else Op.bytesLess a.s.toList b.s.toList
/-- Is it right? (Its error's number.) -/
def chkVa (a : Va) : Int := if a.k = 0 then (if sameB a.x 0 && eqS a.s ⟨#[]⟩ then 0 else 8) else if a.k = 1 then (if canon a.x == a.x && eqS a.s ⟨#[]⟩ then 0 else 8)
  else if a.k = 2 then (if 32 < a.s.size then 2 else if sameB a.x 0 then 0 else 8) else 15
theorem bcell {W w1 : World} (hb : Below W.heap.size W w1) : (∀ b o, b < W.heap.size → w1.cell? ⟨b, o, none⟩ = W.cell? ⟨b, o, none⟩) ∧ (∀ b o, b < W.heap.size → w1.frozen? ⟨b, o, none⟩ = W.frozen? ⟨b, o, none⟩) :=
  ⟨fun b o h => hb.cell (p := ⟨b, o, none⟩) h, fun b o h => hb.frozen (p := ⟨b, o, none⟩) h⟩
theorem two_below (w : World) (o p : Obj) : Below w.heap.size w ((w.alloc o).alloc p) := ((Below.refl _ _).alloc (Nat.le_refl _) _).alloc (by simp) _
theorem one_below (w : World) (o : Obj) : Below w.heap.size w (w.alloc o) := (Below.refl _ _).alloc (Nat.le_refl _) _
set_option maxHeartbeats 400000 in
theorem vcanon_any (x : Nat) (w : World) : Calls Tryd.prog 82 #[.float .f64 x] w fun e w' => e = .returned (.bool (canon x == x)) ∧ w = w' := by
  have h1 := call_bits (canon x)
  have h2 := call_bits x
  have HC : Hid (∀ w, Calls Tryd.prog 60 #[.float .f64 x] w fun e w' => e = .returned (.float .f64 (canon x)) ∧ w = w') := fun w => Canon_any x w
  obtain ⟨c, hc⟩ : ∃ c, canon x = c := ⟨_, rfl⟩
  rw [hc] at h1 HC ⊢
  clear hc
  go_enter Tryd.func82, Tryd.ntmps82
  go_wp2_with (refine (HC.out _).mono ?_; rintro e w1 ⟨rfl, rfl⟩)
  go_ret
  refine ⟨ret_bool ?_, rfl⟩
  rw [Bool.eq_iff_iff]
  simp
  try omega
theorem nought_eq {x : Nat} (hx : x < 18446744073709551616) : sameB x 0 = (x == 0) := by
  rw [same_canon hx (by omega), show canon 0 = 0 by decide, Bool.eq_iff_iff]
  simp
  constructor
  · intro h
    unfold canon at h
    split at h
    · omega
    · exact h
  · rintro rfl
    decide
set_option maxHeartbeats 3200000 in
theorem VCheck_any (a : Va) (w : World) (ha : a.x < 18446744073709551616) (hs : a.s.size ≤ maxLen) :
    Calls Tryd.prog 58 #[a.v] w fun e w' => e = .returned (.int .i64 (chkVa a)) ∧ Below w.heap.size w w' := by
  obtain ⟨k, x, s⟩ := a
  unfold chkVa Va.v eqS
  dsimp only at ha hs ⊢
  unfold maxLen at hs
  have HN : Hid (∀ w, Calls Tryd.prog 81 #[.float .f64 x, .float .f64 0] w fun e w' => e = .returned (.bool (sameB x 0)) ∧ w = w') := fun w => Same_any x 0 w ha (by omega)
  have HC : Hid (∀ w, Calls Tryd.prog 82 #[.float .f64 x] w fun e w' => e = .returned (.bool (canon x == x)) ∧ w = w') := fun w => vcanon_any x w
  obtain ⟨t, ht⟩ : ∃ t, s.toList = t := ⟨_, rfl⟩
  have he : ((⟨#[]⟩ : ByteArray).toList) = [] := by rw [ByteArray.toList_eq]
  rw [ht, he]
  rcases Decidable.em (k = 0) with rfl | h0
  · rw [if_pos rfl]
    cases hn : sameB x 0
    all_goals
      cases hb : (t == ([] : List UInt8))
      all_goals
        rw [hn] at HN
        simp only [Bool.and_self, Bool.and_false, Bool.and_true, Bool.false_eq_true, if_false, if_true]
        go_enter Tryd.func58, Tryd.ntmps58
        go_wp2_with (refine (HN.out _).mono ?_; rintro e w1 ⟨rfl, rfl⟩)
        go_ret
        exact ⟨rfl, one_below _ _⟩
  rw [if_neg h0]
  rcases Decidable.em (k = 1) with rfl | h1
  · rw [if_pos rfl]
    cases hn : (canon x == x)
    all_goals
      cases hb : (t == ([] : List UInt8))
      all_goals
        rw [hn] at HC
        simp only [Bool.and_self, Bool.and_false, Bool.and_true, Bool.false_eq_true, if_false, if_true]
        go_enter Tryd.func58, Tryd.ntmps58
        go_wp2_with (first | (go_at_call 81; refine (HN.out _).mono ?_; rintro e w1 ⟨rfl, rfl⟩) | (go_at_call 82; refine (HC.out _).mono ?_; rintro e w1 ⟨rfl, rfl⟩))
        go_ret
        exact ⟨rfl, one_below _ _⟩
  rw [if_neg h1]
  rcases Decidable.em (k = 2) with rfl | h2
  · rw [if_pos rfl]
    rcases Decidable.em (32 < s.size) with h32 | h32
    case' inl => rw [if_pos h32]
    case' inr =>
      rw [if_neg h32]
      cases hn : sameB x 0
    all_goals
      try rw [hn] at HN
      try simp only [Bool.false_eq_true, if_false, if_true]
      go_enter Tryd.func58, Tryd.ntmps58
      go_wp2_with (refine (HN.out _).mono ?_; rintro e w1 ⟨rfl, rfl⟩)
      go_ret
      exact ⟨rfl, one_below _ _⟩
  rw [if_neg h2]
  have g0 : (k == 0) = false := by simpa using h0
  have g1 : (k == 1) = false := by simpa using h1
  have g2 : (k == 2) = false := by simpa using h2
  go_enter Tryd.func58, Tryd.ntmps58
  go_wp2_with (refine (HN.out _).mono ?_; rintro e w1 ⟨rfl, rfl⟩)
  go_ret
  exact ⟨rfl, one_below _ _⟩
end Go.Proofs.YtkckncggiicciaaDoor
