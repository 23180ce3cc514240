/-
  The walk of PulseSilent.
-/
import Derived.Test.YtebfaghgcecacaaRefn
namespace Go.Proofs.Ytebfaghgcecacaa
open Go.RowKit
theorem andNot_zero (a m : Nat) (h : ∀ i : Nat, a.testBit i = true → (m.testBit i = true)) : bits .andNot .i64 (a : Int) (m : Int) = 0 := by
  have key : (BitVec.ofInt 64 (a : Int) &&& ~~~BitVec.ofInt 64 (m : Int)) = 0#64 := by
    have e1 : BitVec.ofInt 64 (a : Int) = BitVec.ofNat 64 a := by simp
    have e2 : BitVec.ofInt 64 (m : Int) = BitVec.ofNat 64 m := by simp
    rw [e1, e2]
    apply BitVec.eq_of_getLsbD_eq
    intro i hi
    rw [BitVec.getLsbD_and, BitVec.getLsbD_not, BitVec.getLsbD_ofNat, BitVec.getLsbD_ofNat, BitVec.getLsbD_zero]
    have := h i
    cases h1 : a.testBit i
    · simp
    · rw [h1] at this
      simp [hi, this rfl]
  show IntKind.i64.wrap ((BitVec.ofInt 64 (a : Int) &&& ~~~BitVec.ofInt 64 (m : Int)).toNat : Nat) = 0
  rw [key]
  rfl
theorem sil_bit (D : Nat → Nat) (x : Int) (ab : Nat) (k i : Nat) (h : i < k) : (sil D x ab k).testBit i = (hasB x i && lessB ab (D i)) := by
  induction k with
  | zero => omega
  | succ k ih =>
    unfold sil
    have hlt := sil_lt D x ab k
    rcases Nat.lt_or_ge i k with h1 | h1
    · rw [← ih h1]
      split
      · rw [Nat.add_comm, Nat.testBit_two_pow_add_gt h1]
      · rfl
    · obtain rfl : i = k := by omega
      split
      · rename_i hc
        rw [hc, Nat.add_comm, Nat.testBit_two_pow_add_eq, Nat.testBit_lt_two_pow hlt]
        rfl
      · rename_i hc
        rw [Nat.add_zero, Nat.testBit_lt_two_pow hlt]
        simpa using hc
theorem sil_big (D : Nat → Nat) (x : Int) (ab i : Nat) (h : 7 ≤ i) : (sil D x ab 7).testBit i = false :=
  Nat.testBit_lt_two_pow (Nat.lt_of_lt_of_le (sil_lt D x ab 7) (Nat.pow_le_pow_right (by omega) h))
theorem sil_hasB (D : Nat → Nat) (x : Int) (ab i : Nat) (h : i < 7) : hasB ((sil D x ab 7 : Nat) : Int) i = (hasB x i && lessB ab (D i)) := by
  rw [← sil_bit D x ab 7 i h, hasB_eq, Nat.testBit_eq_decide_div_mod_eq]
  congr 1
  apply propext
  have e : ((sil D x ab 7 : Nat) : Int) / 2 ^ i % 2 = ((sil D x ab 7 / 2 ^ i % 2 : Nat) : Int) := by simp
  rw [e]
  omega
theorem sil_none (D : Nat → Nat) (x : Int) (ab : Nat) (h : ∀ i, lessB ab (D i) = false) (k : Nat) : sil D x ab k = 0 := by
  induction k with
  | zero => rfl
  | succ k ih =>
    unfold sil
    rw [ih, h k, Bool.and_false]
    rfl
theorem less_top (d : Nat) (h : d ≤ 9218868437227405312) : lessB 9218868437227405312 d = false := by
  rw [less_small (by omega) h]
  simpa using h
theorem mask_bit (x : Int) (i : Nat) (h : i < 7) : (x % 128).toNat.testBit i = hasB x i := by
  rw [hasB_eq, Nat.testBit_eq_decide_div_mod_eq]
  congr 1
  apply propext
  have : i = 0 ∨ i = 1 ∨ i = 2 ∨ i = 3 ∨ i = 4 ∨ i = 5 ∨ i = 6 := by omega
  rcases this with rfl | rfl | rfl | rfl | rfl | rfl | rfl <;> simp <;> omega
theorem sil_mask (D : Nat → Nat) (x : Int) (ab : Nat) : bits .andNot .i64 ((sil D x ab 7 : Nat) : Int) (bits .and .i64 x 127) = 0 := by
  rw [i64_and127]
  have e : x % 128 = (((x % 128).toNat : Nat) : Int) := by omega
  rw [e]
  refine andNot_zero _ _ (fun i hi => ?_)
  by_cases h : i < 7
  · rw [sil_bit D x ab 7 i h] at hi
    rw [mask_bit x i h]
    simp at hi
    exact hi.1
  · rw [sil_big D x ab i (by omega)] at hi
    cases hi
theorem sil_sub (D : Nat → Nat) (x : Int) (u v : Nat) (h : lessB v u = false) : bits .andNot .i64 ((sil D x v 7 : Nat) : Int) ((sil D x u 7 : Nat) : Int) = 0 := by
  refine andNot_zero _ _ (fun i hi => ?_)
  by_cases hi7 : i < 7
  · rw [sil_bit D x v 7 i hi7] at hi
    rw [sil_bit D x u 7 i hi7]
    simp at hi
    rw [hi.1]
    unfold lessB at *
    simp at *
    omega
  · rw [sil_big D x v i (by omega)] at hi
    cases hi
theorem eq_self (x : Nat) : (FloatKind.f64.format.order x x == some Ordering.eq) = !isNan x := by
  rw [cmp_eq]
  cases isNan x <;> simp
set_option maxRecDepth 100000 in
set_option maxHeartbeats 6400000 in
theorem silent_walk (S : Nat → Int) (hS : ∀ i, -9223372036854775808 ≤ S i ∧ S i ≤ 9223372036854775807) (x : Int) (u v : Nat) (W : World) (hu : u < 18446744073709551616) (hv : v < 18446744073709551616) :
    Calls Try.prog 4 #[.agg (ints7 S), .int .i64 x, .float .f64 u, .float .f64 v] W fun e w' => e = .returned (.bool true) ∧ Below W.heap.size W w' := by
  have HS : Hid (∀ w ab, ab < 18446744073709551616 → Calls Try.prog 15 #[.agg (ints7 S), .slice none 0 0, .int .i64 x, .float .f64 ab] w fun e w' => e = .returned (.tuple #[.int .i64 (sil (Dd S []) x ab 7 : Int), .int .i64 0]) ∧ Below w.heap.size w w') :=
    fun w ab hab => Silent_any S hS none 0 0 0 [] x ab w (RdRtts.nil _ _) (Nat.zero_le _) hab
  have HI : Hid (∀ w, Calls Try.prog 15 #[.agg (ints7 S), .slice none 0 0, .int .i64 x, .float .f64 9218868437227405312] w fun e w' => e = .returned (.tuple #[.int .i64 0, .int .i64 0]) ∧ Below w.heap.size w w') := fun w => by
    have := HS.out w 9218868437227405312 (by omega)
    rw [sil_none _ _ _ (fun i => less_top _ (Dd_le S [] i))] at this
    exact this
  have HN : Hid (∀ w, Calls Try.prog 15 #[.agg (ints7 S), .slice none 0 0, .int .i64 x, .float .f64 9221120237041090561] w fun e w' => e = .returned (.tuple #[.int .i64 0, .int .i64 0]) ∧ Below w.heap.size w w') := fun w => by
    have := HS.out w 9221120237041090561 (by omega)
    rw [sil_none _ _ _ (fun i => less_nan _ nan_nan)] at this
    exact this
  have Hde : Hid (∀ k w, Calls Try.prog 12 #[.int .i64 (S k), .agg #[.float .f64 9221120237041090561, .float .f64 9221120237041090561]] w fun e w' => e = .returned (.tuple #[.float .f64 (Dd S [] k), .int .i64 0]) ∧ Below w.heap.size w w') :=
    fun k w => Doubt_est S hS (RdRtts.nil w 0) rfl k w
  have hDle := Dd_le S []
  obtain ⟨D, hD⟩ : ∃ D, Dd S [] = D := ⟨_, rfl⟩
  rw [hD] at HS Hde hDle
  have HDle := Lib.hid hDle
  clear hD hDle
  have hma := sil_mask D x u
  have hsub := sil_sub D x u v
  have hbit := fun i h => sil_hasB D x u i h
  have h128 := sil_lt D x u 7
  have h128' := sil_lt D x v 7
  have HSu : Hid (∀ w, Calls Try.prog 15 #[.agg (ints7 S), .slice none 0 0, .int .i64 x, .float .f64 u] w fun e w' => e = .returned (.tuple #[.int .i64 (sil D x u 7 : Int), .int .i64 0]) ∧ Below w.heap.size w w') := fun w => HS.out w u hu
  have HSv : Hid (∀ w, Calls Try.prog 15 #[.agg (ints7 S), .slice none 0 0, .int .i64 x, .float .f64 v] w fun e w' => e = .returned (.tuple #[.int .i64 (sil D x v 7 : Int), .int .i64 0]) ∧ Below w.heap.size w w') := fun w => HS.out w v hv
  clear HS
  obtain ⟨a, ha⟩ : ∃ a, sil D x u 7 = a := ⟨_, rfl⟩
  obtain ⟨b, hb⟩ : ∃ b, sil D x v 7 = b := ⟨_, rfl⟩
  rw [ha] at hma hsub hbit h128 HSu
  rw [hb] at hsub h128' HSv
  have hma' : (bits .andNot .i64 (a : Int) (bits .and .i64 x 127) != 0) = false := by rw [hma]; rfl
  have Hbit := Lib.hid hbit
  clear ha hb hma hbit
  have hst := run_store_float
  unfold ints7
  go_enter Try.func4, Try.ntmps4
  go_wp2_with fail
  refine (HSu.out _).mono ?_
  rintro e w1 ⟨rfl, hb1⟩
  have hs1 : w1.heap[W.heap.size]? = some (.cells (ints7 S) 31 (0, 0)) := by
    rw [hb1.block _ (by simp)]
    exact heap_alloc_new W _
  have hbw1 : Below W.heap.size W w1 := ((Below.refl _ _).alloc (Nat.le_refl _) _).trans (hb1.mono (by simp))
  have hz1 : W.heap.size < w1.heap.size := by have := hb1.size; simp at this; omega
  have Hs1 := Lib.hid hs1
  clear hs1 hb1
  go_wp2_with (refine wpList_load_row rfl 31 (.tmp 4) rfl W.heap.size rfl 31 (ints7 S) (0, 0) _ Hs1.out Try.underlying31 rfl (by kernel_rfl) ?_)
  refine (HSv.out _).mono ?_
  rintro e w2 ⟨rfl, hb2⟩
  have hs2 : Hid (w2.heap[W.heap.size]? = some (.cells (ints7 S) 31 (0, 0))) := (hb2.block _ hz1).trans Hs1.out
  have hbw2 : Below W.heap.size W w2 := hbw1.trans (hb2.mono (by omega))
  have hz2 : W.heap.size < w2.heap.size := by have := hb2.size; omega
  clear hb2
  go_wp2_with fail
  have hrow : ∀ w3 w' : World, w3.heap[W.heap.size]? = some (.cells (ints7 S) 31 (0, 0)) → W.heap.size < w3.heap.size → Below w3.heap.size w3 w' → w'.cell? ⟨W.heap.size, 0, none⟩ = some (.int .i64 (S 0)) ∧ w'.cell? ⟨W.heap.size, 1, none⟩ = some (.int .i64 (S 1)) ∧ w'.cell? ⟨W.heap.size, 2, none⟩ = some (.int .i64 (S 2)) ∧ w'.cell? ⟨W.heap.size, 3, none⟩ = some (.int .i64 (S 3)) ∧
      w'.cell? ⟨W.heap.size, 4, none⟩ = some (.int .i64 (S 4)) ∧ w'.cell? ⟨W.heap.size, 5, none⟩ = some (.int .i64 (S 5)) ∧ w'.cell? ⟨W.heap.size, 6, none⟩ = some (.int .i64 (S 6)) := fun w3 w' h1 h2 h3 => by
    have h4 := (h3.block _ h2).trans h1
    exact ⟨cell_of_row _ _ _ _ _ _ h4, cell_of_row _ _ _ _ _ _ h4, cell_of_row _ _ _ _ _ _ h4, cell_of_row _ _ _ _ _ _ h4, cell_of_row _ _ _ _ _ _ h4, cell_of_row _ _ _ _ _ _ h4, cell_of_row _ _ _ _ _ _ h4⟩
  have Hrow := Lib.hid hrow
  clear hrow
  go_region_held3 (fun w' => w'.cell? ⟨W.heap.size, 0, none⟩ = some (.int .i64 (S 0)) ∧ w'.cell? ⟨W.heap.size, 1, none⟩ = some (.int .i64 (S 1)) ∧ w'.cell? ⟨W.heap.size, 2, none⟩ = some (.int .i64 (S 2)) ∧ w'.cell? ⟨W.heap.size, 3, none⟩ = some (.int .i64 (S 3)) ∧
      w'.cell? ⟨W.heap.size, 4, none⟩ = some (.int .i64 (S 4)) ∧ w'.cell? ⟨W.heap.size, 5, none⟩ = some (.int .i64 (S 5)) ∧ w'.cell? ⟨W.heap.size, 6, none⟩ = some (.int .i64 (S 6)))
    ((first | assumption | exact Hrow.out _ _ hs2.out hz2 (Below.drew (Below.refl _ _)) | exact Hrow.out _ _ hs2.out hz2 hb3'))
    ((first
      | (go_at_call 16
         refine (Inf_any _).mono ?_
         rintro e w3 ⟨rfl, rfl⟩)
      | (go_at_call 15
         refine (HI.out _).mono ?_
         rintro e w3 ⟨rfl, hb3⟩
         have hb3' : Below w2.heap.size w2 w3 := (Below.drew (Below.refl _ _)).trans hb3)))
  have hs3 : Hid (w3.heap[W.heap.size]? = some (.cells (ints7 S) 31 (0, 0))) := (hb3'.block _ hz2).trans hs2.out
  have hbw3 : Below W.heap.size W w3 := hbw2.trans (hb3'.mono (by omega))
  have hz3 : W.heap.size < w3.heap.size := by have := hb3'.size; omega
  go_wp2_with fail
  go_region_held3 (fun w' => w'.cell? ⟨W.heap.size, 0, none⟩ = some (.int .i64 (S 0)) ∧ w'.cell? ⟨W.heap.size, 1, none⟩ = some (.int .i64 (S 1)) ∧ w'.cell? ⟨W.heap.size, 2, none⟩ = some (.int .i64 (S 2)) ∧ w'.cell? ⟨W.heap.size, 3, none⟩ = some (.int .i64 (S 3)) ∧
      w'.cell? ⟨W.heap.size, 4, none⟩ = some (.int .i64 (S 4)) ∧ w'.cell? ⟨W.heap.size, 5, none⟩ = some (.int .i64 (S 5)) ∧ w'.cell? ⟨W.heap.size, 6, none⟩ = some (.int .i64 (S 6)))
    ((first | assumption | exact Hrow.out _ _ hs3.out hz3 (Below.drew (Below.refl _ _)) | exact Hrow.out _ _ hs3.out hz3 hb4'))
    ((first
      | (go_at_call 17
         refine (NaN_any _).mono ?_
         rintro e w4 ⟨rfl, rfl⟩)
      | (go_at_call 15
         refine (HN.out _).mono ?_
         rintro e w4 ⟨rfl, hb4⟩
         have hb4' : Below w3.heap.size w3 w4 := (Below.drew (Below.refl _ _)).trans hb4)))
  have hs4 : Hid (w4.heap[W.heap.size]? = some (.cells (ints7 S) 31 (0, 0))) := (hb4'.block _ hz3).trans hs3.out
  have hbw4 : Below W.heap.size W w4 := hbw3.trans (hb4'.mono (by omega))
  have hz4 : W.heap.size < w4.heap.size := by have := hb4'.size; omega
  clear hb3 hb3' hb4 hb4'
  have hxx := eq_self u
  have hyy := eq_self v
  have Hsub := Lib.hid hsub
  clear hsub
  cases nu : isNan u
  case' true => rw [nu] at hxx
  case' false => rw [nu] at hxx; cases nv : isNan v
  case' false.true => rw [nv] at hyy
  case' false.false => rw [nv] at hyy; cases nl : lessB v u
  case' false.false.false => have hsub' : (bits .andNot .i64 (b : Int) (a : Int) != 0) = false := by rw [Hsub.out nl]; rfl
  all_goals
    simp only [Bool.not_true, Bool.not_false] at hxx hyy
    go_wp2_with (go_at_call 18; refine (RefLess_any _ _ _ hv hu).mono ?_; rintro e w5 ⟨rfl, rfl⟩)
    go_loopg [17, 18, 19] 7 (fun g s17 _ _ wr => ∃ k : Nat, k + g = 7 ∧ s17 = .int .i64 k ∧ Below W.heap.size W wr ∧ W.heap.size < wr.heap.size ∧ wr.heap[W.heap.size]? = some (.cells (ints7 S) 31 (0, 0)))
    case atStart => exact ⟨0, by omega, rfl, hbw4, hz4, hs4.out⟩
    case round =>
      obtain ⟨k, hkg, rfl, hbk, hzk, hsk⟩ := hrel
      have hk7 : k ≤ 7 := by omega
      have Hkg := Lib.hid hkg
      have Hsk := Lib.hid hsk
      clear hkg hsk
      by_cases hk : k < 7
      · have hSk := hS k
        have hs0 : ∀ w', Below wr.heap.size wr w' → w'.cell? ⟨W.heap.size, k, none⟩ = some (.int .i64 (S k)) := fun w' hb => by rw [cell_of_row _ _ _ _ _ _ ((hb.block _ hzk).trans Hsk.out)]; exact ints7_get _ hk
        have Hs0 := Lib.hid hs0
        clear hs0
        have hDk := HDle.out k
        have hbk1 := Hbit.out k hk
        go_wp2_with fail
        go_region_held3 (fun w' => w'.cell? ⟨W.heap.size, k, none⟩ = some (.int .i64 (S k)))
          ((first | assumption | exact Hs0.out _ (Below.drew (Below.refl _ _)) | exact Hs0.out _ hb6' | exact Hs0.out _ hb7'))
          ((first
            | (go_at_call 19
               refine (RefNew_any _).mono ?_
               rintro e w6 ⟨rfl, hb6⟩
               have hb6' : Below wr.heap.size wr w6 := (Below.drew (Below.refl _ _)).trans hb6)
            | (go_at_call 12
               refine (Hde.out _ _).mono ?_
               rintro e w7 ⟨rfl, hb7⟩
               have hb7' : Below wr.heap.size wr w7 := hb6'.trans (hb7.mono hb6'.size))))
        have hend : Hid (Below W.heap.size W w7 ∧ W.heap.size < w7.heap.size ∧ w7.heap[W.heap.size]? = some (.cells (ints7 S) 31 (0, 0))) :=
          ⟨hbk.trans (hb7'.mono (by omega)), by have := hb7'.size; omega, (hb7'.block _ (by omega)).trans Hsk.out⟩
        clear hb6 hb6' hb7 hb7'
        cases hh : hasB x k
        · unfold hasB at hh
          clear hbk1
          go_wp2_with fail
          go_roundg (gk - 1)
          case rel => exact ⟨k + 1, by have := Hkg.out; omega, by go_num, hend.out⟩
          case measure => have := Hkg.out; omega
        · rw [hh, Bool.true_and] at hbk1
          unfold hasB at hh hbk1
          cases hlk : lessB u (D k)
          all_goals
            rw [hlk] at hbk1
            go_wp2_with (go_at_call 18; refine (RefLess_any _ _ _ hu (by omega)).mono ?_; rintro e w8 ⟨rfl, rfl⟩)
            go_roundg (gk - 1)
          all_goals first
            | exact ⟨k + 1, by have := Hkg.out; omega, by go_num, hend.out⟩
            | (have := Hkg.out; omega)
      · go_wp2_with fail
        refine (wakes_any _).mono ?_
        rintro e w9 ⟨rfl, hb9⟩
        go_wp2_with fail
        go_ret
        exact ⟨rfl, hbk.trans (hb9.mono (by omega))⟩
end Go.Proofs.Ytebfaghgcecacaa
