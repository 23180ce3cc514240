/-
  The walks of the page's Silent and Worse.
-/
import Derived.Test.YtebfaghgcecacaaRefp
namespace Go.Proofs.Ytebfaghgcecacaa
open Go.RowKit
/-- An estimate of a right list is right. -/
theorem est_ok {A : Option Addr} {n cap B : Nat} {l : List (Nat × Nat)} {w : World} (hy : RdRtts w B A n cap l) (hall : allR l = true) (k : Nat) :
    (est l k).1 < 18446744073709551616 ∧ (est l k).2 < 18446744073709551616 ∧ chk (est l k).1 (est l k).2 = true := by
  by_cases hkn : k < n
  · obtain ⟨b, off, m, v, rfl, hbB, hm, hv, c1, c2, Hst⟩ := hy.step hkn
    have e1 : est l k = (m, v) := by unfold est; rw [List.getD_eq_getElem?_getD, Hst.out.1]; rfl
    rw [e1]
    refine ⟨hm, hv, ?_⟩
    unfold allR at hall
    exact (List.all_eq_true.1 hall) (m, v) (List.mem_of_getElem? Hst.out.1)
  · have e1 : est l k = (9221120237041090561, 9221120237041090561) := by unfold est; rw [List.getD_eq_getElem?_getD, List.getElem?_eq_none (by have := hy.1; omega)]; rfl
    rw [e1]
    exact ⟨by omega, by omega, by decide⟩
theorem pow_wrap {k : Nat} (hk : k < 7) : ∃ p : Nat, wrap64 (2 ^ k) = (p : Int) ∧ p ≤ 64 ∧ p = 2 ^ k := by
  refine ⟨2 ^ k, ?_, ?_, rfl⟩
  all_goals have : k = 0 ∨ k = 1 ∨ k = 2 ∨ k = 3 ∨ k = 4 ∨ k = 5 ∨ k = 6 := by omega
  all_goals rcases this with rfl | rfl | rfl | rfl | rfl | rfl | rfl <;> simp [wrap64]
set_option maxRecDepth 100000 in
set_option maxHeartbeats 3200000 in
theorem RefSilent_any (S : Nat → Int) (hS : ∀ i, -9223372036854775808 ≤ S i ∧ S i ≤ 9223372036854775807) (A : Option Addr) (n cap B : Nat) (l : List (Nat × Nat)) (x : Int) (above : Nat) (w : World) (hy : RdRtts w B A n cap l) (hB : B ≤ w.heap.size)
    (ha : above < 18446744073709551616) :
    Calls Try.prog 24 #[.agg (ints7 S), .slice A n cap, .int .i64 x, .float .f64 above] w (SilentPost S l x above w) := by
  have HPo : Hid (∀ w', Below w.heap.size w w' → SilentPost S l x above w (.returned (if allR l = true then .tuple #[.int .i64 (sil (Dd S l) x above 7 : Int), .int .i64 0] else .tuple #[.int .i64 0, .int .i64 1])) w') := fun w' hb => ⟨rfl, hb⟩
  have Hal : Hid (∀ W, Below w.heap.size w W → Calls Try.prog 46 #[.slice A n cap] W fun e w' => e = .returned (.bool (allR l)) ∧ Below W.heap.size W w') := fun W hb => all_any A n cap B l W (hy.below hb hB) (Nat.le_trans hB hb.size)
  have hb0 : ∀ o, Below w.heap.size w (w.alloc o) := fun o => (Below.refl _ _).alloc (Nat.le_refl _) _
  have Hb0 := Lib.hid hb0
  clear hb0
  cases hr : allR l
  · rw [hr] at HPo Hal
    simp only [Bool.false_eq_true, if_false] at HPo
    unfold ints7
    go_enter Try.func24, Try.ntmps24
    go_wp2_with fail
    refine (Hal.out _ (Hb0.out _)).mono ?_
    rintro e w1 ⟨rfl, hb1⟩
    go_wp2_with fail
    go_ret2
    exact HPo.out _ (((Below.refl _ _).alloc (Nat.le_refl _) _).trans (hb1.mono (by simp)))
  · have Hof : Hid (∀ k W, Below w.heap.size w W → Calls Try.prog 48 #[.slice A n cap, .int .i64 (k : Nat)] W fun e w' => e = .returned (.agg #[.float .f64 (est l k).1, .float .f64 (est l k).2]) ∧ Below W.heap.size W w') :=
      fun k W hb => of_any A n cap B k l W (hy.below hb hB) (Nat.le_trans hB hb.size)
    have HRd : Hid (∀ k W, Calls Try.prog 23 #[.int .i64 (S k), .agg #[.float .f64 (est l k).1, .float .f64 (est l k).2]] W fun e w' => e = .returned (.float .f64 (Dd S l k)) ∧ Below W.heap.size W w') :=
      fun k W => RefDoubt_any (S k) _ _ W (hS k) (est_ok hy hr k).1 (est_ok hy hr k).2.1 (est_ok hy hr k).2.2
    rw [hr] at HPo Hal
    simp only [if_true] at HPo
    have hDle := Dd_le S l
    obtain ⟨D, hD⟩ : ∃ D, Dd S l = D := ⟨_, rfl⟩
    rw [hD] at HPo HRd hDle
    have HDle := Lib.hid hDle
    clear hD hDle
    have Hxx := Lib.hid (eq_self' above)
    unfold ints7
    go_enter Try.func24, Try.ntmps24
    go_wp2_with fail
    refine (Hal.out _ (Hb0.out _)).mono ?_
    rintro e w1 ⟨rfl, hb1⟩
    have hs1 : w1.heap[w.heap.size]? = some (.cells (ints7 S) 31 (0, 0)) := by
      rw [hb1.block _ (by simp)]
      exact heap_alloc_new w _
    have hbw1 : Below w.heap.size w w1 := ((Below.refl _ _).alloc (Nat.le_refl _) _).trans (hb1.mono (by simp))
    have hz1 : w.heap.size < w1.heap.size := by have := hb1.size; simp at this; omega
    have Hs1 := Lib.hid hs1
    clear hs1
    go_wp2_with fail
    go_loopg [10, 11] 7 (fun g s10 s11 wr => ∃ k : Nat, k + g = 7 ∧ s11 = .int .i64 k ∧ s10 = .int .i64 (sil D x above k : Int) ∧ Below w.heap.size w wr ∧ w.heap.size < wr.heap.size ∧ wr.heap[w.heap.size]? = some (.cells (ints7 S) 31 (0, 0)))
    case atStart => exact ⟨0, by omega, rfl, rfl, hbw1, hz1, Hs1.out⟩
    case round =>
      obtain ⟨k, hkg, rfl, rfl, hbk, hzk, hsk⟩ := hrel
      have hk7 : k ≤ 7 := by omega
      have Hkg := Lib.hid hkg
      have Hsk := Lib.hid hsk
      clear hkg hsk
      by_cases hk : k < 7
      · have hsl := sil_lt D x above k
        have hs2 : Hid (sil D x above (k + 1) = sil D x above k + if (hasB x k && lessB above (D k)) = true then 2 ^ k else 0) := rfl
        have hDk := HDle.out k
        have hp6 : 2 ^ k ≤ 2 ^ 6 := Nat.pow_le_pow_right (by omega) (by omega)
        have hsl2 : sil D x above k < 64 := by omega
        obtain ⟨s, hs⟩ : ∃ s, sil D x above k = s := ⟨_, rfl⟩
        rw [hs] at hs2 hsl2 ⊢
        clear hs hsl hp6
        obtain ⟨p, hp1, hp2, hp3⟩ := pow_wrap hk
        rw [← hp3] at hs2
        clear hp3
        have HH : Hid (∀ w, Calls Try.prog 47 #[.int .i64 x, .int .i64 k] w fun e w' => e = .returned (.bool (hasB x k)) ∧ w = w') := fun w => Has_any x k w hk
        have HHq : Hid (∀ z, Calls Try.prog 47 #[.int .i64 x, .int .i64 k] (wr.drewN z) fun e w' => e = .returned (.bool (hasB x k)) ∧ ∃ m, w' = (wr.drewN z).drewN m) :=
          fun z => (Has_any x k (wr.drewN z) hk).mono fun e w' ⟨h1, h2⟩ => ⟨h1, 0, h2.symm⟩
        have hSk := hS k
        have hs0 : ∀ w', Below wr.heap.size wr w' → w'.cell? ⟨w.heap.size, k, none⟩ = some (.int .i64 (S k)) := fun w' hb => by rw [cell_of_row _ _ _ _ _ _ ((hb.block _ hzk).trans Hsk.out)]; exact ints7_get _ hk
        have Hs0 := Lib.hid hs0
        clear hs0
        have Hofk : Hid (∀ W, Below wr.heap.size wr W → Calls Try.prog 48 #[.slice A n cap, .int .i64 (k : Nat)] W fun e w' => e = .returned (.agg #[.float .f64 (est l k).1, .float .f64 (est l k).2]) ∧ Below W.heap.size W w') :=
          fun W hb => Hof.out k W (hbk.trans (hb.mono (by omega)))
        cases hh : hasB x k
        · have hs3 : Hid (sil D x above (k + 1) = s) := by unfold Hid; rw [hs2.out, hh]; rfl
          rw [hh] at HHq
          clear hh
          go_wp2_with fail
          go_quiet ((go_at_call 47; exact Calls.quiet_of (HHq.out _)))
          go_wp2_with fail
          go_roundg (gk - 1)
          case rel => exact ⟨k + 1, by have := Hkg.out; omega, by go_num, by rw [hs3.out], below_drewN hbk _, hzk, Hsk.out⟩
          case measure => have := Hkg.out; omega
        cases na : isNan above
        case true =>
          have hs3 : Hid (sil D x above (k + 1) = s) := by unfold Hid; rw [hs2.out, less_nan _ na, Bool.and_false]; rfl
          rw [hh] at HHq
          have hxx := Hxx.out
          rw [na, Bool.not_true] at hxx
          clear hh
          go_wp2_with fail
          go_quiet ((go_at_call 47; exact Calls.quiet_of (HHq.out _)))
          go_wp2_with fail
          go_roundg (gk - 1)
          case rel => exact ⟨k + 1, by have := Hkg.out; omega, by go_num, by rw [hs3.out], below_drewN hbk _, hzk, Hsk.out⟩
          case measure => have := Hkg.out; omega
        have hxx := Hxx.out
        rw [na, Bool.not_false] at hxx
        have HL : Hid (∀ w, Calls Try.prog 18 #[.float .f64 above, .float .f64 (D k)] w fun e w' => e = .returned (.bool (lessB above (D k))) ∧ w = w') := fun w => RefLess_any _ _ w ha (by omega)
        rw [hh] at HH
        have hs4 : Hid (sil D x above (k + 1) = s + if lessB above (D k) = true then p else 0) := by unfold Hid; rw [hs2.out, hh]; rfl
        clear hs2 hh
        cases hl : lessB above (D k)
        all_goals
          rw [hl] at HL hs4
          clear hl
          simp only [Bool.false_eq_true, if_false, if_true, Nat.add_zero] at hs4
          go_wp2_with fail
          go_region_held3 (fun w' => w'.cell? ⟨w.heap.size, k, none⟩ = some (.int .i64 (S k)))
            ((first | assumption | exact Hs0.out _ (Below.drew (Below.refl _ _)) | exact Hs0.out _ hb6' | exact Hs0.out _ hb7'))
            ((first
              | (go_at_call 47
                 refine (HH.out _).mono ?_
                 rintro e w3 ⟨rfl, rfl⟩)
              | (go_at_call 48
                 refine (Hofk.out _ (Below.drew (Below.refl _ _))).mono ?_
                 rintro e w6 ⟨rfl, hb6⟩
                 have hb6' : Below wr.heap.size wr w6 := (Below.drew (Below.refl _ _)).trans hb6)
              | (go_at_call 23
                 refine (HRd.out _ _).mono ?_
                 rintro e w7 ⟨rfl, hb7⟩
                 have hb7' : Below wr.heap.size wr w7 := hb6'.trans (hb7.mono hb6'.size))
              | (go_at_call 18
                 refine (HL.out _).mono ?_
                 rintro e w8 ⟨rfl, rfl⟩)))
          have hend : Hid (Below w.heap.size w w7 ∧ w.heap.size < w7.heap.size ∧ w7.heap[w.heap.size]? = some (.cells (ints7 S) 31 (0, 0))) :=
            ⟨hbk.trans (hb7'.mono (by omega)), by have := hb7'.size; omega, (hb7'.block _ (by omega)).trans Hsk.out⟩
          clear hb6 hb6' hb7 hb7'
          go_wp2_with fail
          go_roundg (gk - 1)
        all_goals first
          | exact ⟨k + 1, by have := Hkg.out; omega, by go_num, val_int (by have := hs4.out; omega), hend.out⟩
          | (have := Hkg.out; omega)
      · obtain rfl : k = 7 := by omega
        go_wp2_with fail
        go_ret2
        exact HPo.out _ hbk
set_option maxRecDepth 100000 in
set_option maxHeartbeats 6400000 in
theorem RefWorse_any (S : Nat → Int) (hS : ∀ i, -9223372036854775808 ≤ S i ∧ S i ≤ 9223372036854775807) (A : Option Addr) (n cap B : Nat) (l : List (Nat × Nat)) (x : Int) (w : World) (hy : RdRtts w B A n cap l) (hB : B ≤ w.heap.size) :
    Calls Try.prog 25 #[.agg (ints7 S), .slice A n cap, .int .i64 x] w (WorstPost S l x w) := by
  have HPo : Hid (∀ w', Below w.heap.size w w' → WorstPost S l x w (.returned (if allR l = true then .tuple #[.int .i64 (wst (Dd S l) x 7).1, .float .f64 (wst (Dd S l) x 7).2, .int .i64 0] else .tuple #[.int .i64 0, .float .f64 0, .int .i64 1])) w') := fun w' hb => ⟨rfl, hb⟩
  have Hal : Hid (∀ W, Below w.heap.size w W → Calls Try.prog 46 #[.slice A n cap] W fun e w' => e = .returned (.bool (allR l)) ∧ Below W.heap.size W w') := fun W hb => all_any A n cap B l W (hy.below hb hB) (Nat.le_trans hB hb.size)
  have hb0 : ∀ o, Below w.heap.size w (w.alloc o) := fun o => (Below.refl _ _).alloc (Nat.le_refl _) _
  have Hb0 := Lib.hid hb0
  clear hb0
  cases hr : allR l
  · rw [hr] at HPo Hal
    simp only [Bool.false_eq_true, if_false] at HPo
    unfold ints7
    go_enter Try.func25, Try.ntmps25
    go_wp2_with fail
    refine (Hal.out _ (Hb0.out _)).mono ?_
    rintro e w1 ⟨rfl, hb1⟩
    go_wp2_with fail
    go_ret3
    exact HPo.out _ (((Below.refl _ _).alloc (Nat.le_refl _) _).trans (hb1.mono (by simp)))
  · have Hof : Hid (∀ k W, Below w.heap.size w W → Calls Try.prog 48 #[.slice A n cap, .int .i64 (k : Nat)] W fun e w' => e = .returned (.agg #[.float .f64 (est l k).1, .float .f64 (est l k).2]) ∧ Below W.heap.size W w') :=
      fun k W hb => of_any A n cap B k l W (hy.below hb hB) (Nat.le_trans hB hb.size)
    have HRd : Hid (∀ k W, Calls Try.prog 23 #[.int .i64 (S k), .agg #[.float .f64 (est l k).1, .float .f64 (est l k).2]] W fun e w' => e = .returned (.float .f64 (Dd S l k)) ∧ Below W.heap.size W w') :=
      fun k W => RefDoubt_any (S k) _ _ W (hS k) (est_ok hy hr k).1 (est_ok hy hr k).2.1 (est_ok hy hr k).2.2
    rw [hr] at HPo Hal
    simp only [if_true] at HPo
    have hDle := Dd_le S l
    obtain ⟨D, hD⟩ : ∃ D, Dd S l = D := ⟨_, rfl⟩
    rw [hD] at HPo HRd hDle
    have HDle := Lib.hid hDle
    clear hD hDle
    unfold ints7
    go_enter Try.func25, Try.ntmps25
    go_wp2_with fail
    refine (Hal.out _ (Hb0.out _)).mono ?_
    rintro e w1 ⟨rfl, hb1⟩
    have hs1 : w1.heap[w.heap.size]? = some (.cells (ints7 S) 31 (0, 0)) := by
      rw [hb1.block _ (by simp)]
      exact heap_alloc_new w _
    have hbw1 : Below w.heap.size w w1 := ((Below.refl _ _).alloc (Nat.le_refl _) _).trans (hb1.mono (by simp))
    have hz1 : w.heap.size < w1.heap.size := by have := hb1.size; simp at this; omega
    have Hs1 := Lib.hid hs1
    clear hs1
    go_wp2_with fail
    go_loopg [9, 10, 11] 7 (fun g s9 s10 s11 wr => ∃ k : Nat, k + g = 7 ∧ s11 = .int .i64 k ∧ s9 = .int .i64 (wst D x k).1 ∧ s10 = .float .f64 (wst D x k).2 ∧ Below w.heap.size w wr ∧ w.heap.size < wr.heap.size ∧ wr.heap[w.heap.size]? = some (.cells (ints7 S) 31 (0, 0)))
    case atStart => exact ⟨0, by omega, rfl, rfl, rfl, hbw1, hz1, Hs1.out⟩
    case round =>
      obtain ⟨k, hkg, rfl, rfl, rfl, hbk, hzk, hsk⟩ := hrel
      have hk7 : k ≤ 7 := by omega
      have Hkg := Lib.hid hkg
      have Hsk := Lib.hid hsk
      clear hkg hsk
      by_cases hk : k < 7
      · obtain ⟨b1, b2, b3⟩ := wst_bd D x HDle.out k
        have hs2 : Hid (wst D x (k + 1) = if (hasB x k && (decide ((wst D x k).1 < 0) || lessB (wst D x k).2 (D k))) = true then ((k : Int), D k) else wst D x k) := rfl
        have hDk := HDle.out k
        obtain ⟨a, d, hs⟩ : ∃ a d, wst D x k = (a, d) := ⟨_, _, rfl⟩
        rw [hs] at hs2 b1 b2 b3 ⊢
        dsimp only at hs2 b1 b2 b3 ⊢
        clear hs
        have HHq : Hid (∀ z, Calls Try.prog 47 #[.int .i64 x, .int .i64 k] (wr.drewN z) fun e w' => e = .returned (.bool (hasB x k)) ∧ ∃ m, w' = (wr.drewN z).drewN m) :=
          fun z => (Has_any x k (wr.drewN z) hk).mono fun e w' ⟨h1, h2⟩ => ⟨h1, 0, h2.symm⟩
        have HH : Hid (∀ w, Calls Try.prog 47 #[.int .i64 x, .int .i64 k] w fun e w' => e = .returned (.bool (hasB x k)) ∧ w = w') := fun w => Has_any x k w hk
        have hSk := hS k
        have hs0 : ∀ wq w' : World, Below w.heap.size w wq → w.heap.size < wq.heap.size → wq.heap[w.heap.size]? = some (.cells (ints7 S) 31 (0, 0)) → Below wq.heap.size wq w' → w'.cell? ⟨w.heap.size, k, none⟩ = some (.int .i64 (S k)) := fun wq w' _ hz hq hb => by rw [cell_of_row _ _ _ _ _ _ ((hb.block _ hz).trans hq)]; exact ints7_get _ hk
        have Hs0 := Lib.hid hs0
        clear hs0
        have Hofk : Hid (∀ W, Below w.heap.size w W → Calls Try.prog 48 #[.slice A n cap, .int .i64 (k : Nat)] W fun e w' => e = .returned (.agg #[.float .f64 (est l k).1, .float .f64 (est l k).2]) ∧ Below W.heap.size W w') :=
          fun W hb => Hof.out k W hb
        cases hh : hasB x k
        · have hs3 : Hid (wst D x (k + 1) = (a, d)) := by unfold Hid; rw [hs2.out, hh]; rfl
          rw [hh] at HHq
          clear hh
          go_wp2_with fail
          go_quiet ((go_at_call 47; exact Calls.quiet_of (HHq.out _)))
          go_wp2_with fail
          go_roundg (gk - 1)
          case rel => exact ⟨k + 1, by have := Hkg.out; omega, by go_num, by rw [hs3.out], by rw [hs3.out], below_drewN hbk _, hzk, Hsk.out⟩
          case measure => have := Hkg.out; omega
        rw [hh] at HHq HH
        by_cases h0 : a < 0
        · have hs3 : Hid (wst D x (k + 1) = ((k : Int), D k)) := by unfold Hid; rw [hs2.out, hh, decide_eq_true h0]; rfl
          clear hh
          go_wp2_with fail
          go_quiet ((go_at_call 47; exact Calls.quiet_of (HHq.out _)))
          go_wp2_with fail
          have hbq : Below w.heap.size w (wr.drewN nq) := below_drewN hbk _
          have hzq : w.heap.size < (wr.drewN nq).heap.size := hzk
          have hsq : Hid ((wr.drewN nq).heap[w.heap.size]? = some (.cells (ints7 S) 31 (0, 0))) := Hsk.out
          obtain ⟨wq, hwq⟩ : ∃ wq, wr.drewN nq = wq := ⟨_, rfl⟩
          rw [hwq] at hbq hzq hsq ⊢
          clear hwq
          go_region_held3 (fun w' => w'.cell? ⟨w.heap.size, k, none⟩ = some (.int .i64 (S k)))
            ((first | assumption | exact Hs0.out _ _ hbq hzq hsq.out (Below.drew (Below.refl _ _)) | exact Hs0.out _ _ hbq hzq hsq.out hb6' | exact Hs0.out _ _ hbq hzq hsq.out hb7'))
            ((first
              | (go_at_call 48
                 refine (Hofk.out _ (Below.drew hbq)).mono ?_
                 rintro e w6 ⟨rfl, hb6⟩
                 have hb6' : Below wq.heap.size wq w6 := (Below.drew (Below.refl _ _)).trans hb6)
              | (go_at_call 23
                 refine (HRd.out _ _).mono ?_
                 rintro e w7 ⟨rfl, hb7⟩
                 have hb7' : Below wq.heap.size wq w7 := hb6'.trans (hb7.mono hb6'.size))))
          have hend : Hid (Below w.heap.size w w7 ∧ w.heap.size < w7.heap.size ∧ w7.heap[w.heap.size]? = some (.cells (ints7 S) 31 (0, 0))) :=
            ⟨hbq.trans (hb7'.mono (by omega)), by have := hb7'.size; omega, (hb7'.block _ (by omega)).trans hsq.out⟩
          clear hb6 hb6' hb7 hb7'
          go_wp2_with fail
          go_roundg (gk - 1)
          case rel => exact ⟨k + 1, by have := Hkg.out; omega, by go_num, by rw [hs3.out], by rw [hs3.out], hend.out⟩
          case measure => have := Hkg.out; omega
        have HL : Hid (∀ w, Calls Try.prog 18 #[.float .f64 d, .float .f64 (D k)] w fun e w' => e = .returned (.bool (lessB d (D k))) ∧ w = w') := fun w => RefLess_any _ _ w (by omega) (by omega)
        have hs4 : Hid (wst D x (k + 1) = if lessB d (D k) = true then ((k : Int), D k) else (a, d)) := by unfold Hid; rw [hs2.out, hh, decide_eq_false h0]; rfl
        clear hs2 hh
        have hd0 : decide (a < 0) = false := decide_eq_false h0
        cases hl : lessB d (D k)
        all_goals
          rw [hl] at HL hs4
          clear hl
          simp only [Bool.false_eq_true, if_false, if_true] at hs4
          go_wp2_with fail
          go_region_held3 (fun w' => w'.cell? ⟨w.heap.size, k, none⟩ = some (.int .i64 (S k)))
            ((first | assumption | exact Hs0.out _ _ hbk hzk Hsk.out (Below.drew (Below.refl _ _)) | exact Hs0.out _ _ hbk hzk Hsk.out hb6' | exact Hs0.out _ _ hbk hzk Hsk.out hb7'))
            ((first
              | (go_at_call 47
                 refine (HH.out _).mono ?_
                 rintro e w3 ⟨rfl, rfl⟩)
              | (go_at_call 48
                 refine (Hofk.out _ (Below.drew hbk)).mono ?_
                 rintro e w6 ⟨rfl, hb6⟩
                 have hb6' : Below wr.heap.size wr w6 := (Below.drew (Below.refl _ _)).trans hb6)
              | (go_at_call 23
                 refine (HRd.out _ _).mono ?_
                 rintro e w7 ⟨rfl, hb7⟩
                 have hb7' : Below wr.heap.size wr w7 := hb6'.trans (hb7.mono hb6'.size))
              | (go_at_call 18
                 refine (HL.out _).mono ?_
                 rintro e w8 ⟨rfl, rfl⟩)))
          have hbq : Below w.heap.size w w7 := hbk.trans (hb7'.mono (by omega))
          have hzq : w.heap.size < w7.heap.size := by have := hb7'.size; omega
          have hsq : Hid (w7.heap[w.heap.size]? = some (.cells (ints7 S) 31 (0, 0))) := (hb7'.block _ (by omega)).trans Hsk.out
          clear hb6 hb6' hb7 hb7'
          obtain ⟨wq, rfl⟩ : ∃ wq, wq = w7 := ⟨_, rfl⟩
          go_wp2_with fail
        · go_roundg (gk - 1)
          case rel => exact ⟨k + 1, by have := Hkg.out; omega, by go_num, by rw [hs4.out], by rw [hs4.out], hbq, hzq, hsq.out⟩
          case measure => have := Hkg.out; omega
        · go_region_held3 (fun w' => w'.cell? ⟨w.heap.size, k, none⟩ = some (.int .i64 (S k)))
            ((first | assumption | exact Hs0.out _ _ hbq hzq hsq.out (Below.drew (Below.refl _ _)) | exact Hs0.out _ _ hbq hzq hsq.out hb6' | exact Hs0.out _ _ hbq hzq hsq.out hb7'))
            ((first
              | (go_at_call 48
                 refine (Hofk.out _ (Below.drew hbq)).mono ?_
                 rintro e w6 ⟨rfl, hb6⟩
                 have hb6' : Below wq.heap.size wq w6 := (Below.drew (Below.refl _ _)).trans hb6)
              | (go_at_call 23
                 refine (HRd.out _ _).mono ?_
                 rintro e w7 ⟨rfl, hb7⟩
                 have hb7' : Below wq.heap.size wq w7 := hb6'.trans (hb7.mono hb6'.size))))
          have hend : Hid (Below w.heap.size w w7 ∧ w.heap.size < w7.heap.size ∧ w7.heap[w.heap.size]? = some (.cells (ints7 S) 31 (0, 0))) :=
            ⟨hbq.trans (hb7'.mono (by omega)), by have := hb7'.size; omega, (hb7'.block _ (by omega)).trans hsq.out⟩
          clear hb6 hb6' hb7 hb7'
          go_wp2_with fail
          go_roundg (gk - 1)
          case rel => exact ⟨k + 1, by have := Hkg.out; omega, by go_num, by rw [hs4.out], by rw [hs4.out], hend.out⟩
          case measure => have := Hkg.out; omega
      · obtain rfl : k = 7 := by omega
        go_wp2_with fail
        go_ret3
        exact HPo.out _ hbk
end Go.Proofs.Ytebfaghgcecacaa
