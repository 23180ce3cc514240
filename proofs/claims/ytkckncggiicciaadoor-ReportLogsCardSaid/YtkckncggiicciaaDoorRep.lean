/-
  The walk of strings.Repeat, of noughts.
-/
import Derived.Test.YtkckncggiicciaaDoorFmt
namespace Go.Proofs.YtkckncggiicciaaDoor
open Go.RowKit
set_option maxRecDepth 100000
theorem and_low {c : Nat} (h : c < 4294967296) : bits .and .u64 (c : Int) 4294967295 = (c : Int) := by
  have := bits_and_u64_nat c 4294967295 (by omega) (by omega)
  rw [show ((4294967295 : Nat) : Int) = 4294967295 from rfl] at this
  rw [this]
  have e : c &&& 4294967295 = c % 4294967296 := Nat.and_two_pow_sub_one_eq_mod c 32
  rw [e, Nat.mod_eq_of_lt h]
set_option maxHeartbeats 1000000 in
theorem Mul64_one (c : Nat) (hc : c < 100) (w : World) : Calls Tryd.prog 130 #[.int .u64 1, .int .u64 (c : Int)] w fun e w' => e = .returned (.tuple #[.int .u64 0, .int .u64 (c : Int)]) ∧ w = w' := by
  have h1 := and_low (c := c) (by omega)
  have h2 : bits .and .u64 1 4294967295 = 1 := by decide +kernel
  have h3 : bits .and .u64 0 4294967295 = 0 := by decide +kernel
  have h4 : (c : Int) / 4294967296 = 0 := by omega
  go_enter Tryd.func130, Tryd.ntmps130
  go_wp2_with fail
  go_ret2
  exact ⟨rfl, rfl⟩
set_option maxHeartbeats 1000000 in
theorem Mul_one (c : Nat) (hc : c < 100) (w : World) : Calls Tryd.prog 113 #[.int .u64 1, .int .u64 (c : Int)] w fun e w' => e = .returned (.tuple #[.int .u64 0, .int .u64 (c : Int)]) ∧ w = w' := by
  go_enter Tryd.func113, Tryd.ntmps113
  go_wp2_with (refine (Mul64_one c hc _).mono ?_; rintro e w1 ⟨rfl, rfl⟩)
  go_ret2
  exact ⟨rfl, rfl⟩
/-- A part of a string. -/
theorem ext_list (s : ByteArray) (a b : Nat) : (s.extract a b).data.toList = (s.data.toList.take b).drop a := by
  rw [ByteArray.data_extract, Array.toList_extract, List.extract_eq_take_drop, List.drop_take]
theorem bytes_ext {a b : ByteArray} (h : a.data.toList = b.data.toList) : a = b := by
  cases a; cases b
  congr 1
  exact Array.ext' h
set_option maxHeartbeats 1000000 in
theorem lite_prefix (s : ByteArray) (c0 p : UInt8) (rest : List UInt8) (hs : s.data.toList = c0 :: rest) (hm : s.size ≤ maxLen) (w : World) :
    Calls Tryd.prog 78 #[.string s, .string ⟨#[p]⟩] w fun e w' => e = .returned (.bool (c0 == p)) ∧ w = w' := by
  have h1 : 1 ≤ s.size := by
    have : s.data.toList.length = s.size := Array.length_toList
    rw [hs] at this
    simp at this
    omega
  unfold maxLen at hm
  go_enter Tryd.func78, Tryd.ntmps78
  go_wp2_with fail
  go_ret
  refine ⟨?_, rfl⟩
  have e1 : (s.extract 0 1).toList = [c0] := by
    rw [ByteArray.toList_eq, ext_list, hs]
    rfl
  show Ending.returned (Value.bool ((s.extract 0 1).toList == [p])) = _
  rw [e1]
  simp
set_option maxHeartbeats 1000000 in
theorem prefix_any (s : ByteArray) (c0 p : UInt8) (rest : List UInt8) (hs : s.data.toList = c0 :: rest) (hm : s.size ≤ maxLen) (w : World) :
    Calls Tryd.prog 54 #[.string s, .string ⟨#[p]⟩] w fun e w' => e = .returned (.bool (c0 == p)) ∧ w = w' := by
  go_enter Tryd.func54, Tryd.ntmps54
  go_wp2_with (refine (lite_prefix _ c0 p rest (by assumption) (by assumption) _).mono ?_; rintro e w1 ⟨rfl, rfl⟩)
  go_ret
  exact ⟨rfl, rfl⟩
set_option maxRecDepth 100000 in
set_option maxHeartbeats 3200000 in
theorem Rep_any (c : Nat) (hc : c ≤ 16) (w : World) : Calls Tryd.prog 94 #[.string ⟨#[48]⟩, .int .i64 (c : Int)] w fun e w' => e = .returned (.string ⟨(List.replicate c 48).toArray⟩) ∧ w = w' := by
  rcases Decidable.em (c = 0) with rfl | h0
  · go_enter Tryd.func94, Tryd.ntmps94
    go_wp2_with fail
    go_ret
    exact ⟨rfl, rfl⟩
  rcases Decidable.em (c = 1) with rfl | h1
  · go_enter Tryd.func94, Tryd.ntmps94
    go_wp2_with fail
    go_ret
    exact ⟨rfl, rfl⟩
  have h2 : 2 ≤ c := by omega
  have g0 : ((c : Int) == 0) = false := by simp; omega
  have g1 : ((c : Int) == 1) = false := by simp; omega
  clear h0 h1
  go_enter Tryd.func94, Tryd.ntmps94
  go_wp2_with (first
    | (go_at_call 113; refine (Mul_one c (by omega) _).mono ?_; rintro e w1 ⟨rfl, rfl⟩)
    | (go_at_call 54; refine (prefix_any _ _ _ _ rfl (by decide) _).mono ?_; rintro e w1 ⟨rfl, rfl⟩))
  go_ret
  refine ⟨?_, rfl⟩
  clear g0 g1
  have : c = 2 ∨ c = 3 ∨ c = 4 ∨ c = 5 ∨ c = 6 ∨ c = 7 ∨ c = 8 ∨ c = 9 ∨ c = 10 ∨ c = 11 ∨ c = 12 ∨ c = 13 ∨ c = 14 ∨ c = 15 ∨ c = 16 := by omega
  rcases this with rfl | rfl | rfl | rfl | rfl | rfl | rfl | rfl | rfl | rfl | rfl | rfl | rfl | rfl | rfl <;> rfl
end Go.Proofs.YtkckncggiicciaaDoor
