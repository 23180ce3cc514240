/-
  The walk of DiskFull.
-/
import Derived.Test.YtlopeflgleplfaaAgain
import Derived.Laws.MakeOwn
import Derived.Laws.OwnMore
namespace Go.Proofs.Ytlopeflgleplfaa
open Go.RowKit
theorem run_make_u8 (n : Nat) (x : Int) (e : x = n) (hn : n ≤ 100000) (W : World) :
    (Instr.makeSlice 22 (.int .i64 x) (.int .i64 x)).run Try.prog W = .ok (.slice (some ⟨W.heap.size, 0, none⟩) n n) (W.alloc (.cells (madeCells #[.int .u8 0] n) 5)) := by
  subst e
  obtain ⟨i0, hi, hz0, hz1, hz2⟩ := info_parts info_u8
  have h := run_makeSlice (P := Try.prog) (w := W) 22 5 i0 _ Try.underlying22 hi hz0 .i64 .i64 n n (by omega) (by omega) (by rw [hz1]; omega) (by rw [hz2]; omega) (by omega)
  rw [h, hz1, Int.toNat_natCast, Nat.mul_one]
  rfl
theorem make_by (w : World) (n : Nat) (hn : n ≤ 100000) : By (w.alloc (.cells (madeCells #[.int .u8 0] n) 5)) (w.heap.size + 1) (some ⟨w.heap.size, 0, none⟩) n n (List.replicate n 0) := by
  refine ⟨by simp, Nat.le_refl _, by unfold maxLen; omega, fun _ => ⟨w.heap.size, 0, rfl, by omega, fun j u hu => ?_⟩⟩
  rw [Nat.zero_add, World.cell?_alloc_mark]
  rw [← Array.getElem?_toList, toList_madeCells_one]
  simpa [bv] using hu
/-- What does not fit is refused; nothing has turned. -/
theorem replace_big (base d : Nat) (v : Value) (s : DS) (A : Option Addr) (n cap : Nat) (w : World) (h : DiskAt w base d v s) (ho : s.off = false) (_hn1 : n ≤ 9223372036854775807) (hbig : s.room < n) :
    Calls Try.prog 21 #[.pointer (some ⟨d, 0, none⟩), .slice A n cap] w fun e w' => e = .returned (.int .i64 5) ∧ w = w' := by
  obtain ⟨c0, _, _, c3, _, _, hf⟩ := h.cell
  clear hf
  rw [ho] at c3
  have hf2 := h.ok.room
  clear ho
  go_enter Try.func21, Try.ntmps21
  go_wp2_with fail
  go_ret
  exact ⟨rfl, rfl⟩
theorem DQ.big (w0 w : World) (base d : Nat) (s : DS) (A : Option Addr) (n cap : Nat) (h : DQ w0 w base d s) (ho : s.off = false) (_hn1 : n ≤ 9223372036854775807) (hbig : s.room < n) :
    Calls Try.prog 21 #[.pointer (some ⟨d, 0, none⟩), .slice A n cap] w fun e w' => e = .returned (.int .i64 5) ∧ w = w' := by
  obtain ⟨v, h, _⟩ := h
  exact replace_big base d v s A n cap w h ho _hn1 hbig
theorem DS.append_big (s : DS) (l : List UInt8) (ho : s.off = false) (h : s.room < s.file.length + l.length) : s.append l = (5, s) := by simp [DS.append, ho, h]
theorem DS.replace_big (s : DS) (l : List UInt8) (ho : s.off = false) (h : s.room < l.length) : s.replace l = (5, s) := by simp [DS.replace, ho, h]
set_option maxHeartbeats 3200000 in
theorem full_walk (x : Int) (A1 : Option Addr) (n1 c1 : Nat) (l1 : List UInt8) (A2 : Option Addr) (n2 c2 : Nat) (l2 : List UInt8) (W : World) (hx : -9223372036854775808 ≤ x ∧ x ≤ 9223372036854775807) (hy1 : By W W.heap.size A1 n1 c1 l1) (hy2 : By W W.heap.size A2 n2 c2 l2) :
    Calls Try.prog 9 #[.int .i64 x, .slice A1 n1 c1, .slice A2 n2 c2] W fun e w' => e = .returned (.bool true) ∧ Below W.heap.size W w' := by
  have hn1 := hy1.n_le
  have hn2 := hy2.n_le
  by_cases hout : x < 0 ∨ 200 < x ∨ 300 < n1 ∨ 300 < n2
  · by_cases h1 : x < 0
    all_goals by_cases h2 : 200 < x
    all_goals by_cases h3 : 300 < n1
    all_goals by_cases h4 : 300 < n2
    all_goals (try (exfalso; omega))
    all_goals clear hout
    all_goals go_enter Try.func9, Try.ntmps9
    all_goals go_wp2_with fail
    all_goals go_ret
    all_goals exact ⟨rfl, Below.refl _ _⟩
  obtain ⟨room, rfl⟩ : ∃ room : Nat, x = room := ⟨x.toNat, by omega⟩
  have hr : room ≤ 200 := by omega
  have hs1 : n1 ≤ 300 := by omega
  have hs2 : n2 ≤ 300 := by omega
  clear hout hx
  have Hl1 : Hid (l1.length = n1) := hy1.len
  have Hl2 : Hid (l2.length = n2) := hy2.len
  obtain ⟨f, m, a, hm, hmr, hst, ha⟩ : ∃ (f : List UInt8) (m a : Nat), f.length = m ∧ m ≤ room ∧ (DS.new room).append l1 = (a, ⟨room, f, 0, false, 0, 0⟩) ∧ (n1 ≤ room ∧ a = 0 ∨ ¬ n1 ≤ room ∧ a = 5) := by
    by_cases h : n1 ≤ room
    · exact ⟨l1, n1, 0, Hl1.out, h, DS.append_ok room 0 [] l1 0 (by simp [Hl1.out]; omega), .inl ⟨h, rfl⟩⟩
    · exact ⟨[], 0, 5, rfl, by omega, DS.append_big _ _ rfl (by simp [DS.new, Hl1.out]; omega), .inr ⟨h, rfl⟩⟩
  have Hm := Lib.hid hm
  have Hst := Lib.hid hst
  clear hm hst
  have hmk1 : ∀ W, (Instr.makeSlice 22 (.int .i64 ((room : Int) + 1 - (m : Int))) (.int .i64 ((room : Int) + 1 - (m : Int)))).run Try.prog W = _ := fun W => run_make_u8 (room + 1 - m) _ (by omega) (by omega) W
  have hmk2 : ∀ W, (Instr.makeSlice 22 (.int .i64 ((room : Int) + 1)) (.int .i64 ((room : Int) + 1))).run Try.prog W = _ := fun W => run_make_u8 (room + 1) _ (by omega) (by omega) W
  rcases ha with ⟨h1, rfl⟩ | ⟨h1, rfl⟩
  all_goals by_cases h2 : n2 ≤ room
  all_goals go_enter Try.func9, Try.ntmps9
  all_goals go_wp2_with fail
  all_goals refine (DQ.new room W (by omega)).mono ?_
  all_goals rintro e w1 ⟨rfl, q1⟩
  all_goals go_wp2_with fail
  all_goals refine (DQ.append _ _ _ _ _ _ _ _ _ l1 q1 (hy1.below q1.below (Nat.le_refl _))).mono ?_
  all_goals rw [Hst.out]
  all_goals dsimp only
  all_goals rintro e w2 ⟨rfl, q2⟩
  all_goals go_wp2_with fail
  all_goals refine (DQ.len _ _ _ _ _ q2).mono ?_
  all_goals dsimp only
  all_goals rw [Hm.out]
  all_goals rintro e w3 ⟨rfl, rfl⟩
  all_goals go_wp2_with fail
  all_goals refine (DQ.trip _ _ _ _ _ 1 0 q2 (by omega) (by omega)).mono ?_
  all_goals rw [show DS.setTrip ⟨room, f, 0, false, 0, 0⟩ 1 0 = ⟨room, f, 0, false, 1, 0⟩ from rfl]
  all_goals rintro e w4 ⟨rfl, q4⟩
  all_goals go_wp2_with fail
  all_goals refine (DQ.append _ _ _ _ _ _ _ _ _ _ (q4.alloc _) (make_by w4 (room + 1 - m) (by omega))).mono ?_
  all_goals rw [DS.append_big _ _ rfl (by simp [Hm.out]; omega)]
  all_goals dsimp only
  all_goals rintro e w5 ⟨rfl, q5⟩
  all_goals go_wp2_with fail
  all_goals refine (DQ.big _ _ _ _ _ _ _ _ (q5.alloc _) rfl (by omega) (by show room < _; omega)).mono ?_
  all_goals rintro e w6 ⟨rfl, rfl⟩
  all_goals have q6 := q5.alloc (.cells (madeCells #[.int .u8 0] (room + 1)) 5)
  all_goals go_wp2_with fail
  all_goals refine (DQ.len _ _ _ _ _ q6).mono ?_
  all_goals dsimp only
  all_goals rw [Hm.out]
  all_goals rintro e w7 ⟨rfl, rfl⟩
  all_goals go_wp2_with fail
  all_goals refine (DQ.isOff _ _ _ _ _ q6).mono ?_
  all_goals rintro e w8 ⟨rfl, rfl⟩
  all_goals go_wp2_with fail
  all_goals refine (DQ.trip _ _ _ _ _ 0 0 q6 (by omega) (by omega)).mono ?_
  all_goals rw [show DS.setTrip ⟨room, f, 0, false, 1, 0⟩ 0 0 = ⟨room, f, 0, false, 0, 0⟩ from rfl]
  all_goals rintro e w9 ⟨rfl, q9⟩
  all_goals go_wp2_with fail
  all_goals refine (DQ.replace _ _ _ _ _ _ _ _ _ l2 q9 (hy2.below q9.below (Nat.le_refl _)) (Nat.le_refl _)).mono ?_
  all_goals first
    | rw [DS.replace_ok _ _ _ l2 _ (by rw [Hl2.out]; omega)]
    | rw [DS.replace_big _ l2 rfl (by show room < _; rw [Hl2.out]; omega)]
  all_goals dsimp only
  all_goals rintro e w10 ⟨rfl, q10⟩
  all_goals go_wp2_with fail
  all_goals refine (DQ.len _ _ _ _ _ q10).mono ?_
  all_goals dsimp only
  all_goals first | rw [Hm.out] | rw [Hl2.out]
  all_goals rintro e w11 ⟨rfl, rfl⟩
  all_goals go_wp2_with fail
  all_goals refine (wakes_any _).mono ?_
  all_goals rintro e w12 ⟨rfl, hb12⟩
  all_goals go_wp2_with fail
  all_goals go_ret
  all_goals exact ⟨rfl, q10.below.trans (hb12.mono (by have := q10.size; omega))⟩
end Go.Proofs.Ytlopeflgleplfaa
