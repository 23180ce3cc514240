/-
  A value's text, and the page's.
-/
import Derived.Test.YtkckncggiicciaaDoorVrjoin
namespace Go.Proofs.YtkckncggiicciaaDoor
open Go.RowKit
set_option maxRecDepth 100000
def vtextV (a : Va) : ByteArray := if a.k = 1 then ⟨#[110]⟩ ++ textV a.x else if a.k = 2 then ⟨(116 :: hexT a.s.data.toList).toArray⟩ else ⟨#[45]⟩
set_option maxHeartbeats 1600000 in
theorem VText_any (a : Va) (w : World) (ha : a.x < 18446744073709551616) (hs : a.s.size ≤ maxLen) (hT : TzAt w) :
    Calls Tryd.prog 47 #[a.v] w fun e w' => e = .returned (.tuple #[.string (if chkVa a = 0 then vtextV a else ⟨#[]⟩), .int .i64 (chkVa a)]) ∧ Below w.heap.size w w' := by
  have hv := chk_vals a
  have HC : Hid (∀ w, Calls Tryd.prog 58 #[a.v] w fun e w' => e = .returned (.int .i64 (chkVa a)) ∧ Below w.heap.size w w') := fun w => VCheck_any a w ha hs
  rcases hv with e1 | e1 | e1 | e1
  case' inl =>
    rcases Decidable.em (a.k = 2) with h2 | h2
  case' inl.inl =>
    obtain ⟨k, x, s⟩ := a
    dsimp only at h2 hs ha
    subst h2
    rw [if_pos e1]
    have := VText_two x s w hs e1 ha
    rw [e1]
    exact this
  all_goals
    rw [e1] at HC ⊢
    first | rw [if_pos rfl] | rw [if_neg (by decide)]
  case' inl.inr =>
    rcases Decidable.em (a.k = 1) with h1 | h1
  case' inl.inr.inr =>
    have h0 : a.k = 0 := by
      unfold chkVa at e1
      rcases Decidable.em (a.k = 0) with h0 | h0
      · exact h0
      · rw [if_neg h0, if_neg h1, if_neg h2] at e1
        cases e1
  all_goals
    clear e1
    obtain ⟨k, x, s⟩ := a
    unfold Va.v at HC ⊢
    try unfold vtextV
    dsimp only at *
    try rw [if_pos h1]
    try rw [if_neg h1, if_neg h2]
    try subst h1
    try subst h0
    have HT : Hid (∀ w', Below w.heap.size w w' → Calls Tryd.prog 71 #[.float .f64 x] w' fun e w'' => e = .returned (.string (textV x)) ∧ Below w'.heap.size w' w'') := fun w' hb => Text_any x w' ha (hT.below hb)
    obtain ⟨T, hTt⟩ : ∃ T, textV x = T := ⟨_, rfl⟩
    have hTz : T.size ≤ 16 := by rw [← hTt]; unfold textV; show (hexL 16 (canon x)).toArray.size ≤ 16; rw [List.size_toArray, hexL_len]; omega
    rw [hTt] at HT
    try rw [hTt]
    clear hT hTt
    go_enter Tryd.func47, Tryd.ntmps47
    go_wp2_with fail
    refine (HC.out _).mono ?_
    rintro e w1 ⟨rfl, hb1⟩
    have hr1 : w1.heap[w.heap.size]? = some (.cells #[.int .i64 _, .float .f64 x, .string s] 56 (0, 0)) := (hb1.block _ (by simp)).trans (heap_alloc_new w _)
    have c0 := cell_of_row _ _ 0 _ _ _ hr1
    have c1 : w1.cell? ⟨w.heap.size, 1, none⟩ = some (.float .f64 x) := cell_of_row _ _ _ _ _ _ hr1
    have c2 : w1.cell? ⟨w.heap.size, 2, none⟩ = some (.string s) := cell_of_row _ _ _ _ _ _ hr1
    have hz1 : w.heap.size < w1.heap.size := by have := hb1.size; simp at this; omega
    have hbw1 : Below w.heap.size w w1 := (one_below w _).trans (hb1.mono (by simp))
    simp at c0
    clear hr1 hb1
    go_wp2_with (go_at_call 71; refine (HT.out _ hbw1).mono ?_; rintro e w2 ⟨rfl, hb2⟩)
  all_goals go_ret2
  all_goals first
    | exact ⟨rfl, hbw1⟩
    | exact ⟨rfl, hbw1.trans (hb2.mono hbw1.size)⟩
theorem digs16_cut {d : Nat} (hd : d < 16) : (⟨#[48, 49, 50, 51, 52, 53, 54, 55, 56, 57, 97, 98, 99, 100, 101, 102]⟩ : ByteArray).extract d (d + 1) = ⟨#[hexd d]⟩ := by
  have : d = 0 ∨ d = 1 ∨ d = 2 ∨ d = 3 ∨ d = 4 ∨ d = 5 ∨ d = 6 ∨ d = 7 ∨ d = 8 ∨ d = 9 ∨ d = 10 ∨ d = 11 ∨ d = 12 ∨ d = 13 ∨ d = 14 ∨ d = 15 := by omega
  rcases this with rfl | rfl | rfl | rfl | rfl | rfl | rfl | rfl | rfl | rfl | rfl | rfl | rfl | rfl | rfl | rfl <;> rfl
theorem wrap_u8 {d : Nat} (hd : d < 16) : IntKind.u8.wrap ((d : Int) + 1) = (d : Int) + 1 := by
  have : d = 0 ∨ d = 1 ∨ d = 2 ∨ d = 3 ∨ d = 4 ∨ d = 5 ∨ d = 6 ∨ d = 7 ∨ d = 8 ∨ d = 9 ∨ d = 10 ∨ d = 11 ∨ d = 12 ∨ d = 13 ∨ d = 14 ∨ d = 15 := by omega
  rcases this with rfl | rfl | rfl | rfl | rfl | rfl | rfl | rfl | rfl | rfl | rfl | rfl | rfl | rfl | rfl | rfl <;> rfl
set_option maxHeartbeats 1600000 in
theorem RHex_any (s : ByteArray) (w : World) (hs : s.size ≤ 2000) :
    Calls Tryd.prog 48 #[.string s] w fun e w' => e = .returned (.string ⟨(hexT s.data.toList).toArray⟩) ∧ Below w.heap.size w w' := by
  obtain ⟨l, hl⟩ : ∃ l, s.data.toList = l := ⟨_, rfl⟩
  have hlen : l.length = s.size := by rw [← hl]; exact Array.length_toList
  rw [hl]
  go_enter Tryd.func48, Tryd.ntmps48
  go_wp2_with fail
  go_loopg [3, 4] s.size (fun g s3 s4 wr => ∃ (i : Nat) (S : ByteArray), i + g = s.size ∧ s4 = .int .i64 i ∧ s3 = .string S ∧ S = ⟨(hexT (l.take i)).toArray⟩ ∧ ∃ q, wr = w.drewN q)
  case atStart => exact ⟨0, _, by omega, rfl, rfl, rfl, 0, rfl⟩
  case round =>
    obtain ⟨i, S, hig, rfl, rfl, hS, q0, hq0⟩ := hrel
    have Hq := Lib.hid hq0
    clear hq0
    have HS := Lib.hid hS
    have Hig := Lib.hid hig
    have hin : i ≤ s.size := by omega
    have hSz : S.size = 2 * i := by
      rw [hS]
      show (hexT (l.take i)).toArray.size = 2 * i
      rw [List.size_toArray, hexT_len, List.length_take]
      omega
    clear hS hig
    by_cases hlt : i < s.size
    · have hil : i < l.length := by rw [hlen]; exact hlt
      obtain ⟨c, hc⟩ : ∃ c, s[i] = c := ⟨_, rfl⟩
      have hlc : l[i]'hil = c := by
        subst hl
        rw [← hc]
        exact (Array.getElem_toList _)
      have Hst : Hid (l.take (i + 1) = l.take i ++ [c]) := by
        unfold Hid
        rw [← hlc]
        exact List.take_succ_eq_append_getElem hil
      clear hlc
      have hc256 := c.toNat_lt
      obtain ⟨d1, hd1⟩ : ∃ d, c.toNat / 16 = d := ⟨_, rfl⟩
      obtain ⟨d2, hd2⟩ : ∃ d, c.toNat % 16 = d := ⟨_, rfl⟩
      have hq : (c.toNat : Int) / 16 = (d1 : Int) := by omega
      have hand := and_15b c.toNat hc256
      rw [hd2] at hand
      have h1 : d1 < 16 := by omega
      have h2 : d2 < 16 := by omega
      have g1 := digs16_cut h1
      have g2 := digs16_cut h2
      have w1 := wrap_u8 h1
      have w2 := wrap_u8 h2
      have p1 : (0 : Int) ≤ (d1 : Int) + 1 := by omega
      have p2 : (0 : Int) ≤ (d2 : Int) + 1 := by omega
      have p3 : (d1 : Int) ≤ (d1 : Int) + 1 := by omega
      have p4 : (d2 : Int) ≤ (d2 : Int) + 1 := by omega
      have m1 : ¬ 9223372036854775807 < 2 * i + 1 := by omega
      have m2 : ¬ 9223372036854775807 < 2 * i + 1 + 1 := by omega
      have k1 : (d1 : Int) + 1 ≤ 16 := by omega
      have k2 : (d2 : Int) + 1 ≤ 16 := by omega
      have Hd : Hid (c.toNat / 16 = d1 ∧ c.toNat % 16 = d2) := ⟨hd1, hd2⟩
      clear hd1 hd2
      go_wp2_with fail
      refine wp_region_quiet (C := fun w' => ∃ q, w' = wr.drewN q) (by kernel_rfl) (by kernel_rfl) ⟨1, rfl⟩ ?_
      repeat (quiet_step (fail))
      with_reducible refine wpQuiet_nil ?_
      rintro _ ⟨q, rfl⟩
      go_wp2_with fail
      go_roundg (gk - 1)
      case rel => exact ⟨i + 1, _, by have := Hig.out; omega, by go_num, rfl, by
        rw [Hst.out, hexT_snoc, Hd.out.1, Hd.out.2, HS.out]
        show ((⟨_⟩ ++ ⟨[hexd d1].toArray⟩ : ByteArray) ++ ⟨[hexd d2].toArray⟩) = _
        rw [bytes_app, bytes_app, List.append_assoc]
        rfl, q0 + q, by rw [Hq.out, World.drewN_drewN]⟩
      case measure => have := Hig.out; omega
    · go_wp2_with fail
      go_ret
      refine ⟨ret_str ?_, by rw [Hq.out]; exact ⟨rfl, rfl, rfl, Nat.le_refl _, fun _ _ => rfl⟩⟩
      rw [HS.out, List.take_of_length_le (by omega)]
end Go.Proofs.YtkckncggiicciaaDoor
