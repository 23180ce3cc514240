/-
  The walk of skerrylaw03.FrameSpoilt.
-/
import Derived.Test.YtbhckbhdjdmgaaaWakes
import Derived.Test.YtbhckbhdjdmgaaaBurst
namespace Go.Proofs.Ytbhckbhdjdmgaaa
open Go.RowKit
theorem wrap_u64_nonneg' (x : Int) : 0 ≤ IntKind.u64.wrap x := by simp [IntKind.wrap, IntKind.bits, IntKind.signed]; omega
theorem IntKind.wrap_u64' (n : Int) : IntKind.u64.wrap n = n % 18446744073709551616 := by simp [IntKind.wrap, IntKind.bits, IntKind.signed]
set_option maxHeartbeats 800000 in
theorem spoilt_walk (A : Option Addr) (n cap : Nat) (p : List UInt8) (x1 : Int) (b2 : Nat) (x3 : Int) (h1 : -9223372036854775808 ≤ x1 ∧ x1 ≤ 9223372036854775807) (h2 : b2 ≤ 4294967295) (h3 : -9223372036854775808 ≤ x3 ∧ x3 ≤ 9223372036854775807) (w : World) (hb : By w w.heap.size A n cap p) :
    Calls Try.prog 4 #[.slice A n cap, .int .i64 x1, .int .u32 (b2 : Int), .int .i64 x3] w fun e w' => e = .returned (.bool true) ∧ Below w.heap.size w w' := by
  have hn1 : n ≤ 9223372036854775807 := by have := hb.2.1; have := hb.2.2.1; unfold maxLen at this; omega
  by_cases hn0 : n = 0
  · have hd : ((n : Int) == 0) = true := by simp; omega
    clear hn0
    go_enter Try.func4, Try.ntmps4
    go_wp2_with fail
    go_ret
    exact ⟨rfl, Below.refl _ _⟩
  have hd : ((n : Int) == 0) = false := by simp; omega
  have hn0' : 0 < n := by omega
  clear hn0
  by_cases hn : 16384 < n
  · go_enter Try.func4, Try.ntmps4
    go_wp2_with fail
    go_ret
    exact ⟨rfl, Below.refl _ _⟩
  by_cases hx2 : b2 = 0
  · have hd2 : ((b2 : Int) == 0) = true := by simp; omega
    clear hx2
    go_enter Try.func4, Try.ntmps4
    go_wp2_with fail
    go_ret
    exact ⟨rfl, Below.refl _ _⟩
  have hd2 : ((b2 : Int) == 0) = false := by simp; omega
  clear hx2
  have hl := hb.len
  have Hl := Lib.hid hl
  clear hl
  obtain ⟨S, hS, hsh⟩ : ∃ S : Nat, S < 8 ∧ (IntKind.u64.wrap x3).tmod 8 = (S : Int) := by
    have e : (IntKind.u64.wrap x3).tmod 8 = (IntKind.u64.wrap x3) % 8 := Int.tmod_eq_emod_of_nonneg (wrap_u64_nonneg' x3)
    rw [e]
    exact ⟨((IntKind.u64.wrap x3) % 8).toNat, by omega, by omega⟩
  obtain ⟨T, hT, hat⟩ : ∃ T : Nat, T < n ∧ (IntKind.u64.wrap x1).tmod (n : Int) = (T : Int) := by
    have e : (IntKind.u64.wrap x1).tmod (n : Int) = (IntKind.u64.wrap x1) % (n : Int) := Int.tmod_eq_emod_of_nonneg (wrap_u64_nonneg' x1)
    rw [e]
    have a := Int.emod_nonneg (IntKind.u64.wrap x1) (show (n : Int) ≠ 0 by omega)
    have b := Int.emod_lt_of_pos (IntKind.u64.wrap x1) (show (0 : Int) < n by omega)
    exact ⟨((IntKind.u64.wrap x1) % (n : Int)).toNat, by omega, by omega⟩
  obtain ⟨h1a, h1b⟩ := h1
  obtain ⟨h3a, h3b⟩ := h3
  go_enter Try.func4, Try.ntmps4
  go_wp2_with fail
  refine (Seal_any _ _ _ _ _ _ (Nat.le_refl _) hb (by omega)).mono ?_
  rintro e w1 ⟨v1, rfl, ho1, hb1⟩
  obtain ⟨A1, c1, rfl, hy1⟩ := own_by ho1 (n := n + 9) (by rw [frm_length, Hl.out])
  go_wp2_with fail
  have hX : IntKind.u64.wrap ((b2 : Int) * 2 ^ S) = ((b2 * 2 ^ S : Nat) : Int) := by
    have h5 : b2 * 2 ^ S < 2 ^ 40 := by
      have h6 : 2 ^ S ≤ 2 ^ 7 := Nat.pow_le_pow_right (by decide) (by omega)
      have h7 : b2 * 2 ^ S ≤ 4294967295 * 2 ^ 7 := Nat.mul_le_mul h2 h6
      omega
    rw [IntKind.wrap_u64', Int.natCast_mul, Int.natCast_pow]
    have h8 : ((b2 : Int) * 2 ^ S) = ((b2 * 2 ^ S : Nat) : Int) := by simp
    have h9 : ((2 : Nat) : Int) = 2 := rfl
    rw [h9, h8]
    omega
  rw [hX]
  obtain ⟨X, HX⟩ : ∃ X, Hid (b2 * 2 ^ S = X) := ⟨_, rfl⟩
  rw [HX.out]
  clear hX
  go_loopg [13, 14] 5 (fun m s13 s14 wr => ∃ i : Nat, i + m = 5 ∧ T + i ≤ n ∧ s14 = .int .i64 i ∧ s13 = .bool (turn X i) ∧ OwnB wr w.heap.size (.slice A1 (n + 9) c1) (spl (frm p) (9 + T) X i) ∧ Below w.heap.size w wr)
  case atStart => exact ⟨0, rfl, by omega, rfl, rfl, by rw [spl_zero _ _ _ (by rw [frm_length, Hl.out]; omega)]; exact ho1, hb1⟩
  case round =>
    obtain ⟨i, hi, hTi, rfl, rfl, ho, hbw⟩ := hrel
    have Hi := Lib.hid hi
    have hi5 : i ≤ 5 := by omega
    clear hi
    by_cases hlt : i < 5 ∧ T + i < n
    · obtain ⟨hlt1, hlt2⟩ := hlt
      have hlen := spl_length (frm p) (9 + T) X i (by rw [frm_length, Hl.out]; omega)
      obtain ⟨g, rfl, c, hc, hf, Hc, Hs⟩ := own_cell ho (k := 9 + T + i) (by rw [hlen, frm_length, Hl.out]) (by omega)
      have Hlen := Lib.hid hlen
      clear hlen
      have hsp := spl_succ (frm p) (9 + T) X i (by rw [frm_length, Hl.out]; omega) c Hc.out
      have hby : (X : Int) / 2 ^ (8 * i) % 256 = ((Fr.byt X i).toNat : Int) := by
        unfold Fr.byt
        rw [UInt8.toNat_ofNat']
        have e : ((2 : Int) ^ (8 * i)) = ((2 ^ (8 * i) : Nat) : Int) := by simp
        rw [e]
        exact (Int.natCast_emod _ _).symm ▸ rfl
      have ht : turn X (i + 1) = (turn X i || (Fr.byt X i != 0)) := rfl
      obtain ⟨y, hy⟩ : ∃ y, Fr.byt X i = y := ⟨_, rfl⟩
      rw [hy] at hsp hby ht
      have hy2 := y.toNat_lt
      have hcb := c.toNat_lt
      have hgb : w.heap.size ≤ g := (ho.lt g rfl).1
      obtain ⟨hs1, _⟩ := Hs.out (c ^^^ y)
      have exo : ((c ^^^ y).toNat : Int) = bits .xor .u8 (c.toNat : Int) (y.toNat : Int) := by rw [u8_xor_nat _ _ c.toNat_lt y.toNat_lt, UInt8.toNat_xor]
      rw [← hsp, exo] at hs1
      clear exo
      have Hs1 := Lib.hid hs1
      have Ht := Lib.hid ht
      clear hsp ht hy Hs hs1
      obtain ⟨t, Hti⟩ : ∃ t, turn X i = t := ⟨_, rfl⟩
      rw [Hti] at Ht ⊢
      clear Hti
      by_cases hy0 : y = 0
      · have hy3 : ((y.toNat : Int) != 0) = false := by subst hy0; rfl
        have Hy0 : Hid ((y != 0) = false) := by subst hy0; rfl
        clear hy0
        cases t
        · go_wp2_with fail
          go_roundg (gk - 1)
          case rel => exact ⟨i + 1, by have := Hi.out; omega, by omega, by go_num, by rw [Ht.out]; rw [Hy0.out]; rfl, Hs1.out, hbw.setCell hgb _⟩
          case measure => have := Hi.out; omega
        · go_wp2_with fail
          go_roundg (gk - 1)
          case rel => exact ⟨i + 1, by have := Hi.out; omega, by omega, by go_num, by rw [Ht.out]; rfl, Hs1.out, hbw.setCell hgb _⟩
          case measure => have := Hi.out; omega
      · have hy3 : ((y.toNat : Int) != 0) = true := by
          have : y.toNat ≠ 0 := fun e => hy0 (UInt8.toNat_inj.1 e)
          simp; omega
        have Hy0 : Hid ((y != 0) = true) := by simp [Hid, hy0]
        clear hy0
        cases t
        · go_wp2_with fail
          go_roundg (gk - 1)
          case rel => exact ⟨i + 1, by have := Hi.out; omega, by omega, by go_num, by rw [Ht.out]; rw [Hy0.out]; rfl, Hs1.out, hbw.setCell hgb _⟩
          case measure => have := Hi.out; omega
        · go_wp2_with fail
          go_roundg (gk - 1)
          case rel => exact ⟨i + 1, by have := Hi.out; omega, by omega, by go_num, by rw [Ht.out]; rfl, Hs1.out, hbw.setCell hgb _⟩
          case measure => have := Hi.out; omega
    · have hf := first_spl p n T b2 S i Hl.out (by omega) hS h2 hTi hi5
      rw [HX.out] at hf
      have hlen : (spl (frm p) (9 + T) X i).length = n + 9 := by rw [spl_length _ _ _ _ (by rw [frm_length, Hl.out]; omega), frm_length, Hl.out]
      obtain ⟨A2, c2, e0, hy2⟩ := own_by ho hlen
      injection e0 with e1 e2 e3
      subst e1 e3
      clear e2 hlen
      obtain ⟨t, Hti⟩ : ∃ t, turn X i = t := ⟨_, rfl⟩
      rw [Hti] at hf ⊢
      clear Hti Hi
      have Hp : Hid (∀ e w', FirstPost wr (first (spl (frm p) (9 + T) X i)) e w' → Below wr.heap.size wr w' ∧ ∃ v q r, e = .returned (.tuple #[v, q, .int .i64 r]) ∧ ((r : Int) == 3) = t) := by
        intro e w' ⟨h1, h2⟩
        rw [hf] at h2
        refine ⟨h1, ?_⟩
        cases t
        · obtain ⟨v, rfl, _⟩ := h2
          exact ⟨_, _, _, rfl, rfl⟩
        · exact ⟨_, _, _, h2, rfl⟩
      clear hf
      by_cases hi5' : i < 5
      all_goals
        go_wp2_with fail
        refine (First_any _ _ _ _ _ _ (Nat.le_refl _) hy2).mono ?_
        intro e w4 hp
        obtain ⟨hb4, v4, q4, r4, rfl, hr4⟩ := Hp.out e w4 hp
        clear hp
        have htt : (t == t) = true := by cases t <;> rfl
        go_wp2_with fail
        refine (wakes_any _).mono ?_
        rintro e w6 ⟨rfl, hb6⟩
        go_wp2_with fail
        go_ret
        have hbw4 := hbw.trans (hb4.mono hbw.size)
        exact ⟨rfl, hbw4.trans (hb6.mono hbw4.size)⟩
end Go.Proofs.Ytbhckbhdjdmgaaa
