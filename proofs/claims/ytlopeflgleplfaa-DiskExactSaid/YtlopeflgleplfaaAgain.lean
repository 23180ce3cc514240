/-
  The walk of DiskAgain.
-/
import Derived.Test.YtlopeflgleplfaaDq
namespace Go.Proofs.Ytlopeflgleplfaa
open Go.RowKit
theorem DS.append_ok (room syn : Nat) (f l : List UInt8) (keep : Int) (h : f.length + l.length ≤ room) : DS.append ⟨room, f, syn, false, 0, keep⟩ l = (0, ⟨room, f ++ l, syn, false, 0, keep⟩) := by
  simp [DS.append, DS.done, DS.isLast, DS.count, show ¬ room < f.length + l.length by omega]
theorem DS.replace_ok (room syn : Nat) (f l : List UInt8) (keep : Int) (h : l.length ≤ room) : DS.replace ⟨room, f, syn, false, 0, keep⟩ l = (0, ⟨room, l, l.length, false, 0, keep⟩) := by
  simp [DS.replace, DS.done, DS.isLast, DS.count, show ¬ room < l.length by omega]
theorem DS.sync_ok (room syn : Nat) (f : List UInt8) (keep : Int) : DS.sync ⟨room, f, syn, false, 0, keep⟩ = (0, ⟨room, f, f.length, false, 0, keep⟩) := by
  simp [DS.sync, DS.done, DS.isLast, DS.count]
theorem By.n_le {w : World} {B n cap : Nat} {A : Option Addr} {l : List UInt8} (h : By w B A n cap l) : n ≤ 9223372036854775807 := by
  have := h.2.1
  have := h.2.2.1
  unfold maxLen at this
  omega
set_option maxHeartbeats 1600000 in
theorem again_walk (A0 : Option Addr) (n0 c0 : Nat) (l0 : List UInt8) (A1 : Option Addr) (n1 c1 : Nat) (l1 : List UInt8) (keep : Int) (W : World) (hy0 : By W W.heap.size A0 n0 c0 l0) (hy1 : By W W.heap.size A1 n1 c1 l1) (hk : -9223372036854775808 ≤ keep ∧ keep ≤ 9223372036854775807) :
    Calls Try.prog 7 #[.slice A0 n0 c0, .slice A1 n1 c1, .int .i64 keep] W fun e w' => e = .returned (.bool true) ∧ Below W.heap.size W w' := by
  have hn0 := hy0.n_le
  have hn1 := hy1.n_le
  by_cases h0 : 2000 < n0
  · go_enter Try.func7, Try.ntmps7
    go_wp2_with fail
    go_ret
    exact ⟨rfl, Below.refl _ _⟩
  by_cases h1 : 2000 < n1
  · go_enter Try.func7, Try.ntmps7
    go_wp2_with fail
    go_ret
    exact ⟨rfl, Below.refl _ _⟩
  have Hl0 : Hid (l0.length = n0) := hy0.len
  have Hl1 : Hid (l1.length = n1) := hy1.len
  go_enter Try.func7, Try.ntmps7
  go_wp2_with fail
  refine (DQ.new 65536 W (by omega)).mono ?_
  rintro e w1 ⟨rfl, q1⟩
  go_wp2_with fail
  refine (DQ.append _ _ _ _ _ _ _ _ _ l0 q1 (hy0.below q1.below (Nat.le_refl _))).mono ?_
  rw [show (DS.new 65536).append l0 = _ from DS.append_ok 65536 0 [] l0 0 (by simp [Hl0.out]; omega)]
  rintro e w2 ⟨rfl, q2⟩
  go_wp2_with fail
  refine (DQ.replace _ _ _ _ _ _ _ _ _ l1 q2 (hy1.below q2.below (Nat.le_refl _)) (Nat.le_refl _)).mono ?_
  rw [DS.replace_ok _ _ _ l1 _ (by rw [Hl1.out]; omega)]
  rintro e w3 ⟨rfl, q3⟩
  go_wp2_with fail
  refine (DQ.start _ _ _ _ _ q3).mono ?_
  rintro e w4 ⟨rfl, q4⟩
  go_wp2_with fail
  refine (DQ.crash _ _ _ _ _ keep q4).mono ?_
  have ec : DS.crash (DS.start ⟨65536, l1, l1.length, false, 0, 0⟩) keep = ⟨65536, l1, l1.length, true, 0, 0⟩ := by
    have : DS.stays ⟨65536, l1, l1.length, false, 0, 0⟩ keep = l1.length := by simp [DS.stays]; omega
    simp [DS.crash, DS.start, this]
  rw [ec]
  rintro e w5 ⟨rfl, q5⟩
  go_wp2_with fail
  refine (DQ.crash _ _ _ _ _ _ q5).mono ?_
  rw [show ∀ k, DS.crash ⟨65536, l1, l1.length, true, 0, 0⟩ k = ⟨65536, l1, l1.length, true, 0, 0⟩ from fun k => rfl]
  rintro e w6 ⟨rfl, q6⟩
  go_wp2_with fail
  refine (DQ.trip _ _ _ _ _ 1 1 q6 (by omega) (by omega)).mono ?_
  rintro e w7 ⟨rfl, q7⟩
  go_wp2_with fail
  refine (DQ.start _ _ _ _ _ q7).mono ?_
  rintro e w8 ⟨rfl, q8⟩
  go_wp2_with fail
  refine (DQ.read _ _ _ _ _ q8).mono ?_
  rintro e w9 ⟨q9, hb9, v9, rfl, ho⟩
  have ho' : OwnB w9 w8.heap.size v9 l1 := ho
  obtain ⟨A9, c9, rfl, hy9⟩ := own_by ho' Hl1.out
  clear ec
  go_wp2_with fail
  refine (Bytes_same _ _ _ _ _ _ l1 _ _ _ hy9 (hy1.below q9.below (Nat.le_refl _))).mono ?_
  rintro e w10 ⟨rfl, k10, rfl⟩
  go_wp2_with fail
  refine (DQ.sync _ _ _ _ _ (q9.drewN k10)).mono ?_
  rw [show DS.sync (DS.start (DS.setTrip ⟨65536, l1, l1.length, true, 0, 0⟩ 1 1)) = _ from DS.sync_ok 65536 _ l1 0]
  rintro e w11 ⟨rfl, q11⟩
  go_wp2_with fail
  refine (DQ.append _ _ _ _ _ _ _ _ _ l0 q11 (hy0.below q11.below (Nat.le_refl _))).mono ?_
  rw [DS.append_ok 65536 _ l1 l0 0 (by rw [Hl0.out, Hl1.out]; omega)]
  rintro e w12 ⟨rfl, q12⟩
  go_wp2_with fail
  refine (DQ.len _ _ _ _ _ q12).mono ?_
  rw [show (DS.mk 65536 (l1 ++ l0) l1.length false 0 0).file.length = n0 + n1 by simp [Hl0.out, Hl1.out]; omega]
  rintro e w13 ⟨rfl, rfl⟩
  go_wp2_with fail
  refine (wakes_any _).mono ?_
  rintro e w14 ⟨rfl, hb14⟩
  go_wp2_with fail
  go_ret
  exact ⟨rfl, q12.below.trans (hb14.mono (by have := q12.size; omega))⟩
end Go.Proofs.Ytlopeflgleplfaa
