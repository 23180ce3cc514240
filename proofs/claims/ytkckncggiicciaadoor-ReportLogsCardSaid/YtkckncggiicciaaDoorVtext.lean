/-
  The walk of value.Text.
-/
import Derived.Test.YtkckncggiicciaaDoorVal
import Derived.Test.YtkckncggiicciaaDoorMemb
import Derived.Deep.LoopGhost
namespace Go.Proofs.YtkckncggiicciaaDoor
open Go.RowKit
set_option maxRecDepth 100000
/-- Two digits for each byte. -/
def hexT (l : List UInt8) : List UInt8 := l.flatMap fun c => [hexd (c.toNat / 16), hexd (c.toNat % 16)]
theorem hexT_snoc (l : List UInt8) (c : UInt8) : hexT (l ++ [c]) = hexT l ++ [hexd (c.toNat / 16), hexd (c.toNat % 16)] := by simp [hexT]
theorem hexT_len (l : List UInt8) : (hexT l).length = 2 * l.length := by
  induction l with
  | nil => rfl
  | cons c l ih => simp [hexT] at ih ⊢; omega
theorem digs16_at {d : Nat} (hd : d < 16) (h : d < (⟨#[48, 49, 50, 51, 52, 53, 54, 55, 56, 57, 97, 98, 99, 100, 101, 102]⟩ : ByteArray).size) :
    (⟨#[48, 49, 50, 51, 52, 53, 54, 55, 56, 57, 97, 98, 99, 100, 101, 102]⟩ : ByteArray)[d] = hexd d := by
  have : d = 0 ∨ d = 1 ∨ d = 2 ∨ d = 3 ∨ d = 4 ∨ d = 5 ∨ d = 6 ∨ d = 7 ∨ d = 8 ∨ d = 9 ∨ d = 10 ∨ d = 11 ∨ d = 12 ∨ d = 13 ∨ d = 14 ∨ d = 15 := by omega
  rcases this with rfl | rfl | rfl | rfl | rfl | rfl | rfl | rfl | rfl | rfl | rfl | rfl | rfl | rfl | rfl | rfl <;> rfl
theorem and_15b : ∀ n : Nat, n < 256 → bits .and .u8 (n : Int) 15 = ((n % 16 : Nat) : Int) := by decide +kernel
/-- The row that a string's bytes lie in. -/
theorem str_cell (w : World) (s : ByteArray) (j : Nat) (hj : j < s.data.toList.length) : (Lib.bytesWorld w 5 s).cell? ⟨w.heap.size, j, none⟩ = some (.int .u8 (s.data.toList[j].toNat : Int)) := by
  rw [Lib.bytesWorld_cell w 5 s j (by simpa using hj)]
  simp [List.getD, List.getElem?_eq_getElem hj]
theorem str_below (w : World) (s : ByteArray) : Below w.heap.size w (Lib.bytesWorld w 5 s) :=
  ⟨by simp [Lib.bytesWorld, World.freeze, World.alloc, World.drew, -World.alloc_eq, -World.drew_eq], by simp [Lib.bytesWorld, World.freeze, World.alloc, World.drew, -World.alloc_eq, -World.drew_eq], by simp [Lib.bytesWorld, World.freeze, World.alloc, World.drew, -World.alloc_eq, -World.drew_eq], by rw [Lib.bytesWorld_size]; omega, fun k hk => Lib.bytesWorld_at_old w _ s k hk⟩
set_option maxHeartbeats 3200000 in
theorem VText_two (x : Nat) (s : ByteArray) (w : World) (hs : s.size ≤ maxLen) (hc : chkVa ⟨2, x, s⟩ = 0) (hx : x < 18446744073709551616) :
    Calls Tryd.prog 47 #[.agg #[.int .i64 2, .float .f64 x, .string s]] w fun e w' => e = .returned (.tuple #[.string ⟨(116 :: hexT s.data.toList).toArray⟩, .int .i64 0]) ∧ Below w.heap.size w w' := by
  have HC : Hid (∀ w, Calls Tryd.prog 58 #[.agg #[.int .i64 2, .float .f64 x, .string s]] w fun e w' => e = .returned (.int .i64 0) ∧ Below w.heap.size w w') := fun w => by
    have := VCheck_any ⟨2, x, s⟩ w hx hs
    rw [hc] at this
    exact this
  go_enter Tryd.func47, Tryd.ntmps47
  go_wp2_with fail
  refine (HC.out _).mono ?_
  rintro e w1 ⟨rfl, hb1⟩
  have hr1 : w1.heap[w.heap.size]? = some (.cells #[.int .i64 2, .float .f64 x, .string s] 56 (0, 0)) := (hb1.block _ (by simp)).trans (heap_alloc_new w _)
  have c0 : w1.cell? ⟨w.heap.size, 0, none⟩ = some (.int .i64 2) := cell_of_row _ _ _ _ _ _ hr1
  have c1 : w1.cell? ⟨w.heap.size, 1, none⟩ = some (.float .f64 x) := cell_of_row _ _ _ _ _ _ hr1
  have c2 : w1.cell? ⟨w.heap.size, 2, none⟩ = some (.string s) := cell_of_row _ _ _ _ _ _ hr1
  have hz1 : w.heap.size < w1.heap.size := by have := hb1.size; simp at this; omega
  have hbw1 : Below w.heap.size w w1 := (one_below w _).trans (hb1.mono (by simp))
  have hcv := fun w => Lib.run_convert_string_bytes (P := Tryd.prog) w 9 26 5 s Tryd.underlying9 Tryd.underlying26 Tryd.underlying5
  clear hr1 hb1
  go_wp2_with fail
  obtain ⟨l, hl⟩ : ∃ l, s.data.toList = l := ⟨_, rfl⟩
  have hlen : l.length = s.size := by rw [← hl]; exact Array.length_toList
  obtain ⟨w2, hw2⟩ : ∃ w2, w1.alloc (.cells #[.int .u8 116] 5) = w2 := ⟨_, rfl⟩
  have hz2 : w2.heap.size = w1.heap.size + 1 := by rw [← hw2]; simp
  have hb2 : Below w.heap.size w w2 := by rw [← hw2]; exact hbw1.alloc hbw1.size _
  have ho2 : OwnB w2 w.heap.size (.slice (some ⟨w1.heap.size, 0, none⟩) 1 1) [116] := by rw [← hw2]; exact own_lit hbw1.size 116
  have hrow : ∀ j (hj : j < l.length), (Lib.bytesWorld w2 5 s).cell? ⟨w1.heap.size + 1, j, none⟩ = some (.int .u8 (l[j].toNat : Int)) := by
    subst hl
    intro j hj
    rw [← hz2]
    exact str_cell w2 s j hj
  have hb3 : Below w2.heap.size w2 (Lib.bytesWorld w2 5 s) := str_below w2 s
  have hz3 : (Lib.bytesWorld w2 5 s).heap.size = w1.heap.size + 2 := by rw [Lib.bytesWorld_size, hz2]
  rw [hw2]
  obtain ⟨w3, hw3⟩ : ∃ w3, Lib.bytesWorld w2 5 s = w3 := ⟨_, rfl⟩
  rw [hw3] at hrow hb3 hz3 ⊢
  have ho3 : OwnB w3 w.heap.size (.slice (some ⟨w1.heap.size, 0, none⟩) 1 1) [116] := ho2.below hb3
  have hbw3 : Below w.heap.size w w3 := hb2.trans (hb3.mono hb2.size)
  obtain ⟨C, hC⟩ : ∃ C, grownCap w2 s.size 0 5 = C := ⟨_, rfl⟩
  rw [hC]
  have Hrow := Lib.hid hrow
  have Hlen := Lib.hid hlen
  have Hl := Lib.hid hl
  clear hw2 hw3 hC c0 c1 c2 hcv hrow hlen hl ho2 hb2 hb3 hz2
  have h32 : s.size ≤ 32 := by
    unfold chkVa at hc
    simp at hc
    by_cases h : 32 < s.size
    · rw [if_pos h] at hc; cases hc
    · omega
  clear hc
  go_loopg [5, 28] s.size (fun g s5 s28 wr => ∃ i : Nat, i + g = s.size ∧ s28 = .int .i64 i ∧ OwnB wr w.heap.size s5 (116 :: hexT (l.take i)) ∧ s5.ownBlock ≠ some (w1.heap.size + 1) ∧ Below w.heap.size w wr ∧ w1.heap.size + 2 ≤ wr.heap.size ∧ wr.heap[w1.heap.size + 1]? = w3.heap[w1.heap.size + 1]?)
  case atStart => exact ⟨0, by omega, rfl, ho3, by simp [Value.ownBlock], hbw3, by omega, rfl⟩
  case round =>
    obtain ⟨i, hig, rfl, ho, hne, hb, hz, hk⟩ := hrel
    have hin : i ≤ s.size := by omega
    have Hig := Lib.hid hig
    have Ho := Lib.hid ho
    have Hne := Lib.hid hne
    have Hk := Lib.hid hk
    clear hig ho hne hk
    by_cases hlt : i < s.size
    · have hil : i < l.length := by rw [Hlen.out]; exact hlt
      obtain ⟨c, hc⟩ : ∃ c, l[i]'hil = c := ⟨_, rfl⟩
      have hcell : wr.cell? ⟨w1.heap.size + 1, i, none⟩ = some (.int .u8 (c.toNat : Int)) := by
        rw [← hc]
        exact (World.cell?_of_block (a := ⟨w1.heap.size + 1, i, none⟩) Hk.out).trans (Hrow.out i hil)
      have Hst : Hid (l.take (i + 1) = l.take i ++ [c]) := by
        unfold Hid
        rw [← hc]
        exact List.take_succ_eq_append_getElem hil
      clear hc
      have hc256 := c.toNat_lt
      obtain ⟨d1, hd1⟩ : ∃ d, c.toNat / 16 = d := ⟨_, rfl⟩
      obtain ⟨d2, hd2⟩ : ∃ d, c.toNat % 16 = d := ⟨_, rfl⟩
      have hq : (c.toNat : Int) / 16 = (d1 : Int) := by omega
      have hand := and_15b c.toNat hc256
      rw [hd2] at hand
      have h1 : d1 < 16 := by omega
      have h2 : d2 < 16 := by omega
      have g1 := fun h => digs16_at h1 h
      have g2 := fun h => digs16_at h2 h
      have Hd : Hid (c.toNat / 16 = d1 ∧ c.toNat % 16 = d2) := ⟨hd1, hd2⟩
      clear hd1 hd2
      go_wp2_with fail
      go_region_held3 (fun w' => Below w.heap.size w w') ((first | assumption | exact Below.drew (by assumption) | exact Below.alloc (Below.drew (by assumption)) (Below.size (by assumption)) _)) ((first
        | (refine step_appBAt rfl (.tmp 32) (.tmp 39) rfl w.heap.size u5 _ rfl (World.ownsRow.alloc Ho.out _) (wr.heap.size + 1) (some ⟨wr.heap.size, 0, none⟩) 2 2 [hexd d1, hexd d2] rfl (by_two wr (hexd d1) (hexd d2)) (by rw [List.length_cons, hexT_len, List.length_take]; omega) (by simp; omega) ?_
           intro v4 w4 ho4 hg4 hw4
           have hb4 : Below w.heap.size w w4 := (Below.alloc (Below.drew hb) hb.size _).grown hg4 (by simp; omega) (fun k hk => (World.ownsRow.lt Ho.out k hk).1))))
      all_goals
        have hR : w1.heap.size + 1 < wr.heap.size := by omega
        have hne4 : v4.ownBlock ≠ some (w1.heap.size + 1) := by
          rcases hw4 with h | h
          · rw [h]; exact Hne.out
          · rw [h]
            intro e
            injection e with e
            simp at e
            omega
        have hk4 : w4.heap[w1.heap.size + 1]? = w3.heap[w1.heap.size + 1]? := by
          rw [hg4.block _ (by simp; omega) (fun e => Hne.out e.symm)]
          exact (Below.heap_alloc _ _ _ hR).trans Hk.out
        have hz4 : w1.heap.size + 2 ≤ w4.heap.size := by have := hg4.size; simp at this; omega
        have Hne4 := Lib.hid hne4
        have Hk4 := Lib.hid hk4
        have Ho4 : Hid (OwnB w4 w.heap.size v4 (116 :: hexT (l.take (i + 1)))) := by
          unfold Hid
          rw [Hst.out, hexT_snoc, Hd.out.1, Hd.out.2]
          exact ho4
        clear hw4 hg4 hne4 hk4 ho4 hcell hq hand g1 g2
        go_wp2_with fail
        go_roundg (gk - 1)
      all_goals first
        | exact ⟨i + 1, by have := Hig.out; omega, by go_num, Ho4.out, Hne4.out, hb4, hz4, Hk4.out⟩
        | (have := Hig.out; omega)
    · obtain rfl : i = s.size := by omega
      obtain ⟨A, C2, rfl, hy⟩ := own_by Ho.out (n := 1 + 2 * s.size) (by rw [List.length_cons, hexT_len, List.length_take, Hlen.out]; omega)
      have hfin : Hid ((⟨(116 :: hexT (l.take s.size)).toArray⟩ : ByteArray) = ⟨(116 :: hexT s.data.toList).toArray⟩) := by
        unfold Hid
        rw [Hl.out, List.take_of_length_le (by rw [Hlen.out]; exact Nat.le_refl _)]
      have hcv := conv_by hy
      rw [hfin.out] at hcv
      clear hy
      go_wp2_with fail
      go_ret2
      exact ⟨rfl, hb⟩
end Go.Proofs.YtkckncggiicciaaDoor
