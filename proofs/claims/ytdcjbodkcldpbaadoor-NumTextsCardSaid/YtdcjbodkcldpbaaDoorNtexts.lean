/-
  The walk of NumTexts.
-/
import Derived.Test.YtdcjbodkcldpbaaDoorParse
import Derived.Test.YtdcjbodkcldpbaaDoorKeys
import Derived.Test.YtdcjbodkcldpbaaDoorWk
namespace Go.Proofs.YtdcjbodkcldpbaaDoor
open Go.RowKit
set_option maxRecDepth 100000
theorem nt_size (x : Nat) : (textV x).size ≤ 4000 := by
  unfold textV
  show (hexL 16 (canon x)).toArray.size ≤ 4000
  rw [List.size_toArray, hexL_len]
  omega
set_option maxHeartbeats 1000000 in
theorem keepFloat_same (a : Nat) (w : World) : Calls Tryd.prog 37 #[.float .f64 a, .float .f64 a] w fun e w' => e = .returned (.bool true) ∧ w = w' := by
  have h1 := call_bits a
  have hne := cmp_ne_self a
  cases h : isNan a
  all_goals
    rw [h] at hne
    clear h
    go_enter Tryd.func37, Tryd.ntmps37
    go_wp2_with fail
    go_ret
    exact ⟨rfl, rfl⟩
set_option maxHeartbeats 3200000 in
theorem ntexts_walk (x : Nat) (s : ByteArray) (W : World) (hx : x < 18446744073709551616) (hs : s.size ≤ maxLen) (hT : TzAt W) (hE : ErrAt W) :
    Calls Tryd.prog 10 #[.float .f64 x, .string s] W fun e w' => e = .returned (.bool true) ∧ Below W.heap.size W w' := by
  unfold maxLen at hs
  rcases Decidable.em (1000 < s.size) with hbig | hbig
  · go_enter Tryd.func10, Tryd.ntmps10
    go_wp2_with fail
    go_ret
    exact ⟨rfl, below_self _⟩
  have hc := canon_lt hx
  have hpt := parse_text hx
  have HT : Hid (∀ w, Below W.heap.size W w → Calls Tryd.prog 33 #[.float .f64 x] w fun e w' => e = .returned (.string (textV x)) ∧ Below w.heap.size w w') := fun w hb => Text_any x w hx (hT.below hb)
  have HR : Hid (∀ w, Below W.heap.size W w → Calls Tryd.prog 35 #[.float .f64 x] w fun e w' => e = .returned (.string (textV x)) ∧ Below w.heap.size w w') := fun w hb => RefText_any x w hx (hT.below hb)
  have HP : Hid (∀ w, Below W.heap.size W w → Calls Tryd.prog 34 #[.string (textV x)] w fun e w' => e = .returned (.tuple #[.float .f64 (canon x), .int .i64 0]) ∧ Below w.heap.size w w') := fun w hb => by
    have := Parse_any (textV x) w (nt_size x) (hT.below hb) (hE.below hb)
    have e : (textV x).data.toList = hexL 16 (canon x) := rfl
    rw [e] at this
    unfold parseN parseE at this
    rw [if_pos hpt.1, if_pos hpt.1, hpt.2] at this
    exact this
  have HS : Hid (∀ w, Calls Tryd.prog 15 #[.float .f64 x, .float .f64 (canon x)] w fun e w' => e = .returned (.bool true) ∧ w = w') := fun w => by
    have := Same_any x (canon x) w hx hc
    have e : sameB x (canon x) = true := by
      rw [same_canon hx hc]
      apply decide_eq_true
      unfold canon
      cases h : isNan x
      · simp [h]
      · simp [nan_nan]
    rw [e] at this
    exact this
  have HZ : Hid (∀ w, Below W.heap.size W w → Calls Tryd.prog 34 #[.string s] w fun e w' => e = .returned (.tuple #[.float .f64 (parseN s.data.toList), .int .i64 (parseE s.data.toList)]) ∧ Below w.heap.size w w') := fun w hb => Parse_any s w (by omega) (hT.below hb) (hE.below hb)
  have HW : Hid (∀ w, Below W.heap.size W w → Calls Tryd.prog 36 #[.string s] w fun e w' => e = .returned (.tuple #[.float .f64 (parseN s.data.toList), .bool (parseOk s.data.toList)]) ∧ Below w.heap.size w w') := fun w hb => RefParse_any s w (hT.below hb)
  have HK : Hid (∀ w, Below W.heap.size W w → Calls Tryd.prog 13 #[] w fun e w' => e = .returned (.bool true) ∧ Below w.heap.size w w') := fun w hb => wakes_any w (hT.below hb)
  have hzl := parseN_lt s.data.toList
  have HB : Hid (parseOk s.data.toList = true → ∀ w, Below W.heap.size W w → Calls Tryd.prog 33 #[.float .f64 (parseN s.data.toList)] w fun e w' => e = .returned (.string s) ∧ Below w.heap.size w w') := fun hok w hb => by
    have := Text_any (parseN s.data.toList) w hzl (hT.below hb)
    have e : textV (parseN s.data.toList) = s := by
      unfold textV parseN
      rw [if_pos hok, text_parse hok]
    rw [e] at this
    exact this
  obtain ⟨T, hTe⟩ : ∃ T, textV x = T := ⟨_, rfl⟩
  obtain ⟨y, hy⟩ : ∃ y, canon x = y := ⟨_, rfl⟩
  obtain ⟨z, hz⟩ : ∃ z, parseN s.data.toList = z := ⟨_, rfl⟩
  rw [hTe] at HT HR HP
  rw [hy] at HP HS
  rw [hz] at HZ HW HB
  unfold parseE at HZ
  have hbq : Below W.heap.size W W := below_self W
  cases hok : parseOk s.data.toList
  all_goals
    rw [hok] at HZ HW HB
    simp only [if_true, Bool.false_eq_true, if_false] at HZ
    clear hTe hy hz hok hT hE hpt hc hx hzl
    go_enter Tryd.func10, Tryd.ntmps10
    go_wp2_with fail
    refine (HT.out _ hbq).mono ?_
    rintro e w1 ⟨rfl, hb1⟩
    have hbq1 := hbq.trans (hb1.mono hbq.size)
    clear hbq hb1
    go_wp2_with fail
    refine (HP.out _ hbq1).mono ?_
    rintro e w2 ⟨rfl, hb2⟩
    have hbq2 := hbq1.trans (hb2.mono hbq1.size)
    clear hbq1 hb2
    go_wp2_with fail
    refine (HR.out _ hbq2).mono ?_
    rintro e w3 ⟨rfl, hb3⟩
    have hbq3 := hbq2.trans (hb3.mono hbq2.size)
    clear hbq2 hb3
    go_wp2_with (go_at_call 15; refine (HS.out _).mono ?_; rintro e w4 ⟨rfl, rfl⟩)
    refine (HZ.out _ hbq3).mono ?_
    rintro e w5 ⟨rfl, hb5⟩
    have hbq5 := hbq3.trans (hb5.mono hbq3.size)
    clear hbq3 hb5
    go_wp2_with fail
    refine (HW.out _ hbq5).mono ?_
    rintro e w6 ⟨rfl, hb6⟩
    have hbq6 := hbq5.trans (hb6.mono hbq5.size)
    clear hbq5 hb6
    go_wp2_with (go_at_call 37; refine (keepFloat_same _ _).mono ?_; rintro e w7 ⟨rfl, rfl⟩)
  · refine (HK.out _ hbq6).mono ?_
    rintro e w8 ⟨rfl, hb8⟩
    go_wp2_with fail
    go_ret
    exact ⟨rfl, hbq6.trans (hb8.mono hbq6.size)⟩
  · refine (HB.out (by trivial) _ hbq6).mono ?_
    rintro e w8 ⟨rfl, hb8⟩
    have hbq8 := hbq6.trans (hb8.mono hbq6.size)
    clear hbq6 hb8
    go_wp2_with fail
    refine (HK.out _ hbq8).mono ?_
    rintro e w9 ⟨rfl, hb9⟩
    go_wp2_with fail
    go_ret
    exact ⟨rfl, hbq8.trans (hb9.mono hbq8.size)⟩
end Go.Proofs.YtdcjbodkcldpbaaDoor
