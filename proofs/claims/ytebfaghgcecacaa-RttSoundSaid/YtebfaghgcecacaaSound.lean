/-
  The walk of RttSound.
-/
import Derived.Test.YtebfaghgcecacaaMorem
import Derived.RegionCalls
namespace Go.Proofs.Ytebfaghgcecacaa
open Go.RowKit
theorem fl_at {w : World} {B n cap : Nat} {A : Option Addr} {l : List Nat} (h : Rd w B 1 A n cap (l.map (Value.float .f64))) {k : Nat} (hk : k < n) :
    ∃ b off x, A = some ⟨b, off, none⟩ ∧ b < B ∧ x ∈ l ∧ w.cell? ⟨b, off + k, none⟩ = some (.float .f64 x) := by
  obtain ⟨h1, h2, h3, h4⟩ := h
  rw [List.length_map, Nat.mul_one] at h1
  obtain ⟨b, off, e, hb, hc⟩ := h4 (by omega)
  have hl : l[k]? = some (l[k]'(by omega)) := by simp
  exact ⟨b, off, l[k]'(by omega), e, hb, List.getElem_mem _, hc k _ (by rw [List.getElem?_map, hl]; rfl)⟩
set_option maxRecDepth 100000 in
set_option maxHeartbeats 6400000 in
theorem sound_walk (A : Option Addr) (n cap : Nat) (l : List Nat) (lo hi : Int) (W : World) (hy : Rd W W.heap.size 1 A n cap (l.map (Value.float .f64))) (hl : ∀ x ∈ l, x < 18446744073709551616) :
    Calls Try.prog 8 #[.slice A n cap, .int .i64 lo, .int .i64 hi] W fun e w' => e = .returned (.bool true) ∧ Below W.heap.size W w' := by
  have hmax : n ≤ 9223372036854775807 := by
    have := hy.2.1
    have := hy.2.2.1
    unfold maxLen at this
    omega
  by_cases hlong : 300 < n
  · go_enter Try.func8, Try.ntmps8
    go_wp2_with fail
    go_ret
    exact ⟨rfl, Below.refl _ _⟩
  have hst := run_store_float
  go_enter Try.func8, Try.ntmps8
  go_wp2_with fail
  refine (New_any _).mono ?_
  rintro e w1 ⟨rfl, hb1⟩
  go_wp2_with fail
  have hz1 := hb1.size
  go_loopg [8, 9, 10, 11] n (fun g s8 _ _ _ wr => ∃ (i m v : Nat), i + g = n ∧ s8 = .int .i64 i ∧ m < 18446744073709551616 ∧ v < 18446744073709551616 ∧ chk m v = true ∧ Below W.heap.size W wr ∧ w1.heap.size < wr.heap.size ∧ wr.heap[w1.heap.size]? = some (.cells #[.float .f64 m, .float .f64 v] 24 (0, 0)))
  case atStart => exact ⟨0, _, _, by omega, rfl, by omega, by omega, by decide, hb1.alloc hz1 _, by simp, heap_alloc_new w1 _⟩
  case round =>
    obtain ⟨i, m, v, hig, rfl, hm, hv, hc, hbr, hzr, hrow⟩ := hrel
    have hin : i ≤ n := by omega
    have Hig := Lib.hid hig
    have Hc := Lib.hid hc
    have y0 : wr.cell? ⟨w1.heap.size, 0, none⟩ = some (.float .f64 m) := cell_of_row _ _ _ _ _ _ hrow
    have y1 : wr.cell? ⟨w1.heap.size, 1, none⟩ = some (.float .f64 v) := cell_of_row _ _ _ _ _ _ hrow
    have Hrow := Lib.hid hrow
    clear hig hrow hc
    by_cases hlt : i < n
    · obtain ⟨b, off, x, rfl, hbB, hxl, c0⟩ := fl_at (hy.below hbr (Nat.le_refl _)) hlt
      have lx := hl x hxl
      have hge := cmp_ge x 0
      rw [show isNan 0 = false from rfl, Bool.not_false, Bool.and_true, rk_zero] at hge
      have HN : Hid (∀ w, Calls Try.prog 29 #[.agg #[.float .f64 m, .float .f64 v], .float .f64 x] w (NotePost m v x w)) := fun w => Note_any m v x w hm hv lx
      unfold NotePost at HN
      have hbB' : b < wr.heap.size := by have := hbr.size; omega
      have Hk : Hid (∀ w' : World, Below wr.heap.size wr w' → w'.cell? ⟨w1.heap.size, 0, none⟩ = some (.float .f64 m) ∧ w'.cell? ⟨w1.heap.size, 1, none⟩ = some (.float .f64 v) ∧ w'.cell? ⟨b, off + i, none⟩ = some (.float .f64 x)) := fun w' h =>
        ⟨(h.cell (p := ⟨w1.heap.size, 0, none⟩) hzr).trans y0, (h.cell (p := ⟨w1.heap.size, 1, none⟩) hzr).trans y1, (h.cell (p := ⟨b, off + i, none⟩) hbB').trans c0⟩
      cases hB : (!isNan x && decide (0 ≤ rk x))
      case' true =>
        have hn : noteB m v x = true := by unfold noteB; rw [Hc.out, hB]; rfl
        obtain ⟨q1, q2⟩ := note_right hn
        rw [hn] at HN
        simp only [if_true] at HN
        obtain ⟨m', hm'⟩ : ∃ m', (noteV m v x).1 = m' := ⟨_, rfl⟩
        obtain ⟨v', hv'⟩ : ∃ v', (noteV m v x).2 = v' := ⟨_, rfl⟩
        rw [hm'] at HN q1
        rw [hv'] at HN q2
        clear hm' hv' hn
        have HCk : Hid (∀ W, Calls Try.prog 28 #[.agg #[.float .f64 m', .float .f64 v']] W fun e w' => e = .returned (.int .i64 0) ∧ Below W.heap.size W w') := fun W => by
          have := Check_any m' v' W (by omega) (by omega)
          rw [steady_chk q1 q2] at this
          exact this
      case' false =>
        have hn : noteB m v x = false := by unfold noteB; rw [Hc.out, hB]; rfl
        rw [hn] at HN
        simp only [Bool.false_eq_true, if_false] at HN
        clear hn
        obtain ⟨m', hm'⟩ : ∃ m' : Nat, 0 = m' := ⟨_, rfl⟩
        obtain ⟨v', hv'⟩ : ∃ v' : Nat, 0 = v' := ⟨_, rfl⟩
        have HN2 : Hid (∀ w, Calls Try.prog 29 #[.agg #[.float .f64 m, .float .f64 v], .float .f64 x] w fun e w' => e = .returned (.tuple #[.agg #[.float .f64 m', .float .f64 v'], .int .i64 1]) ∧ Below w.heap.size w w') := by rw [← hm', ← hv']; exact HN
        clear HN hm' hv'
        have HN := HN2
        clear HN2
      all_goals
        rw [hB] at hge
        clear hB y0 y1 c0
        go_wp2_with fail
        go_region_held3 (fun w' => w'.cell? ⟨w1.heap.size, 0, none⟩ = some (.float .f64 m) ∧ w'.cell? ⟨w1.heap.size, 1, none⟩ = some (.float .f64 v) ∧ w'.cell? ⟨b, off + i, none⟩ = some (.float .f64 x))
          ((first | assumption | exact Hk.out _ (Below.refl _ _) | exact Hk.out _ (Below.drew (Below.refl _ _)) | exact Hk.out _ ((Below.refl _ _).alloc (Nat.le_refl _) _) | exact Hk.out _ (Below.drew ((Below.refl _ _).alloc (Nat.le_refl _) _)) | exact Hk.out _ hb2' | exact Hk.out _ (hb2'.alloc hb2'.size _) | exact Hk.out _ ((hb2'.setCell (Nat.le_refl _) _).setCell (Nat.le_refl _) _)))
          ((first
            | (go_at_call 29
               refine (HN.out _).mono ?_
               rintro e w2 ⟨rfl, hb2⟩
               have hb2' : Below wr.heap.size wr w2 := by first | exact (Below.drew (Below.refl _ _)).trans hb2 | exact (Below.drew ((Below.refl _ _).alloc (Nat.le_refl _) _)).trans (hb2.mono (by simp))
               try (
                 have hz2 : w2.heap[wr.heap.size]? = some (.cells #[.float .f64 0, .float .f64 0] 24 (0, 0)) := (hb2.block _ (by simp)).trans (heap_alloc_new wr _)
                 have z0 : w2.cell? ⟨wr.heap.size, 0, none⟩ = some (.float .f64 0) := cell_of_row _ _ _ _ _ _ hz2
                 have z1 : w2.cell? ⟨wr.heap.size, 1, none⟩ = some (.float .f64 0) := cell_of_row _ _ _ _ _ _ hz2
                 have f0 : w2.frozen? ⟨wr.heap.size, 0, none⟩ = false := frozen_of_row _ _ _ _ _ hz2
                 have f1 : w2.frozen? ⟨wr.heap.size, 1, none⟩ = false := frozen_of_row _ _ _ _ _ hz2
                 have Hz2 := Lib.hid hz2
                 clear hz2))))
      all_goals first
        | (obtain ⟨w3, hw3⟩ : ∃ w3, w2.alloc (.cells #[.float .f64 m', .float .f64 v'] 24) = w3 := ⟨_, rfl⟩
           have hb3 : Below wr.heap.size wr w3 := by rw [← hw3]; exact hb2'.alloc hb2'.size _
           have hx3 : w3.heap[w2.heap.size]? = some (.cells #[.float .f64 m', .float .f64 v'] 24 (0, 0)) := by rw [← hw3]; exact heap_alloc_new w2 _
           have hX1 := hb2'.size
           have hX2 : w2.heap.size < w3.heap.size := by rw [← hw3]; simp
           rw [hw3]
           obtain ⟨X, hX⟩ : ∃ X, w2.heap.size = X := ⟨_, rfl⟩
           rw [hX] at hx3 hX1 hX2 ⊢
           clear hw3 hX hb2 hb2')
        | (obtain ⟨w3, hw3⟩ : ∃ w3, (w2.setCell ⟨wr.heap.size, 0, none⟩ (.float .f64 m')).setCell ⟨wr.heap.size, 1, none⟩ (.float .f64 v') = w3 := ⟨_, rfl⟩
           have hb3 : Below wr.heap.size wr w3 := by rw [← hw3]; exact (hb2'.setCell (Nat.le_refl _) _).setCell (Nat.le_refl _) _
           have hx3 : w3.heap[wr.heap.size]? = some (.cells #[.float .f64 m', .float .f64 v'] 24 (0, 0)) := by
             rw [← hw3, heap_setCell_same _ _ _ _ _ _ (heap_setCell_same _ _ _ _ _ _ Hz2.out)]
             rfl
           have hX1 := Nat.le_refl wr.heap.size
           have hX2 : wr.heap.size < w3.heap.size := by rw [← hw3]; simp [World.setCell]; have := hb2.size; simp at this; omega
           rw [hw3]
           obtain ⟨X, hX⟩ : ∃ X, wr.heap.size = X := ⟨_, rfl⟩
           rw [hX] at hx3 hX1 hX2 ⊢
           rw [← hX] at hX1
           clear hw3 hX hb2 hb2' Hz2 z0 z1 f0 f1)
      all_goals
        have hx0 : w3.cell? ⟨X, 0, none⟩ = some (.float .f64 m') := cell_of_row _ _ _ _ _ _ hx3
        have hx1 : w3.cell? ⟨X, 1, none⟩ = some (.float .f64 v') := cell_of_row _ _ _ _ _ _ hx3
        obtain ⟨y0, y1, c0⟩ := Hk.out _ hb3
        have Hx3 := Lib.hid hx3
        clear hx3
        go_wp2_with fail
      -- who was told: is it right?
      all_goals first
        | (fail_if_success (have hck := HCk)
           have hz35 := hb3.size
           obtain ⟨w5, hw5⟩ : ∃ w5, w3 = w5 := ⟨_, rfl⟩
           have hbw5 : Below W.heap.size W w5 := by rw [← hw5]; exact hbr.trans (hb3.mono hbr.size)
           have hz5 : w1.heap.size < w5.heap.size := by rw [← hw5]; omega
           have hr5 : w5.heap[w1.heap.size]? = some (.cells #[.float .f64 m, .float .f64 v] 24 (0, 0)) := by
             rw [← hw5]
             exact (hb3.block _ hzr).trans Hrow.out
           have hc5 : chk m v = true := Hc.out
           have hm5 := hm
           have hv5 := hv
           rw [hw5]
           clear hw5 y0 y1 c0 hx0 hx1 hb3 Hx3 hX2
           obtain ⟨p, hp⟩ : ∃ p, m = p := ⟨_, rfl⟩
           obtain ⟨q, hq⟩ : ∃ q, v = q := ⟨_, rfl⟩
           rw [hp, hq] at hr5 hc5 ⊢
           rw [hp] at hm5
           rw [hq] at hv5
           clear hp hq)
        | (refine (HCk.out _).mono ?_
           rintro e w4 ⟨rfl, hb4⟩
           have hb4' : Below wr.heap.size wr w4 := hb3.trans (hb4.mono hb3.size)
           have hx4 : w4.heap[X]? = some (.cells #[.float .f64 m', .float .f64 v'] 24 (0, 0)) := (hb4.block _ hX2).trans Hx3.out
           have hr4 : w4.heap[w1.heap.size]? = some (.cells #[.float .f64 m, .float .f64 v] 24 (0, 0)) := (hb4'.block _ hzr).trans Hrow.out
           have hz4 : wr.heap.size ≤ w4.heap.size := hb4'.size
           have u0 : w4.cell? ⟨X, 0, none⟩ = some (.float .f64 m') := cell_of_row _ _ _ _ _ _ hx4
           have u1 : w4.cell? ⟨X, 1, none⟩ = some (.float .f64 v') := cell_of_row _ _ _ _ _ _ hx4
           have u2 : w4.cell? ⟨w1.heap.size, 0, none⟩ = some (.float .f64 m) := cell_of_row _ _ _ _ _ _ hr4
           have u3 : w4.cell? ⟨w1.heap.size, 1, none⟩ = some (.float .f64 v) := cell_of_row _ _ _ _ _ _ hr4
           have u4 : w4.frozen? ⟨w1.heap.size, 0, none⟩ = false := frozen_of_row _ _ _ _ _ hr4
           have u5 : w4.frozen? ⟨w1.heap.size, 1, none⟩ = false := frozen_of_row _ _ _ _ _ hr4
           have Hr4 := Lib.hid hr4
           clear hx4 hr4 y0 y1 c0 hx0 hx1 hb4 hb3 Hx3 hX2
           go_wp2_with fail
           obtain ⟨w5, hw5⟩ : ∃ w5, (w4.setCell ⟨w1.heap.size, 0, none⟩ (.float .f64 m')).setCell ⟨w1.heap.size, 1, none⟩ (.float .f64 v') = w5 := ⟨_, rfl⟩
           have hbw5 : Below W.heap.size W w5 := by rw [← hw5]; exact ((hbr.trans (hb4'.mono hbr.size)).setCell hz1 _).setCell hz1 _
           have hz5 : w1.heap.size < w5.heap.size := by rw [← hw5]; simp [World.setCell]; omega
           have hr5 : w5.heap[w1.heap.size]? = some (.cells #[.float .f64 m', .float .f64 v'] 24 (0, 0)) := by
             rw [← hw5, heap_setCell_same _ _ _ _ _ _ (heap_setCell_same _ _ _ _ _ _ Hr4.out)]
             rfl
           have hc5 : chk m' v' = true := steady_chk q1 q2
           have hm5 : m' < 18446744073709551616 := by omega
           have hv5 : v' < 18446744073709551616 := by omega
           rw [hw5]
           clear hw5 u0 u1 u2 u3 u4 u5 hb4' Hr4 hz4
           obtain ⟨p, hp⟩ : ∃ p, m' = p := ⟨_, rfl⟩
           obtain ⟨q, hq⟩ : ∃ q, v' = q := ⟨_, rfl⟩
           rw [hp, hq] at hr5 hc5 ⊢
           rw [hp] at hm5
           rw [hq] at hv5
           clear hp hq)
      all_goals
        have HT : Hid (∀ w, Calls Try.prog 31 #[.agg #[.float .f64 p, .float .f64 q], .int .i64 lo, .int .i64 hi] w (ToutPost p q lo hi w)) := fun w => Timeout_any p q lo hi w hm5 hv5
        unfold ToutPost toutB at HT
        rw [hc5, Bool.true_and] at HT
        have Hr5 := Lib.hid hr5
        have Hc5 := Lib.hid hc5
        have tV := fun h => tout_in (m := p) (v := q) (lo := lo) (hi := hi) h
        obtain ⟨T, hTT⟩ : ∃ T, toutV p q lo hi = T := ⟨_, rfl⟩
        rw [hTT] at HT tV
        clear hr5 hc5 hTT
        by_cases hsp : 1 ≤ lo ∧ lo ≤ hi ∧ hi ≤ 1000
        case' pos =>
          rw [decide_eq_true hsp] at HT
          simp only [if_true] at HT
          obtain ⟨s1, s2, s3⟩ := hsp
          obtain ⟨t1, t2⟩ := tV s2
        case' neg =>
          rw [decide_eq_false hsp] at HT
          simp only [Bool.false_eq_true, if_false] at HT
          have s0 : lo < 1 ∨ (1 ≤ lo ∧ hi < lo) ∨ (1 ≤ lo ∧ lo ≤ hi ∧ 1000 < hi) := by omega
          clear hsp
          rcases s0 with s1 | ⟨s1, s2⟩ | ⟨s1, s2, s3⟩
        all_goals
          clear tV
          refine (HT.out _).mono ?_
          rintro e w6 ⟨rfl, hb6⟩
          go_wp2_with fail
          go_roundg (gk - 1)
        all_goals first
          | exact ⟨i + 1, p, q, by have := Hig.out; omega, by go_num, hm5, hv5, Hc5.out, hbw5.trans (hb6.mono hbw5.size), by have := hb6.size; omega, (hb6.block _ hz5).trans Hr5.out⟩
          | (have := Hig.out; omega)
    · obtain rfl : i = n := by omega
      have HCk : Hid (∀ W, Calls Try.prog 28 #[.agg #[.float .f64 m, .float .f64 v]] W fun e w' => e = .returned (.int .i64 0) ∧ Below W.heap.size W w') := fun W => by
        have := Check_any m v W hm hv
        rw [Hc.out] at this
        exact this
      go_wp2_with fail
      refine (HCk.out _).mono ?_
      rintro e w8 ⟨rfl, hb8⟩
      go_wp2_with fail
      refine (rwakes_any _).mono ?_
      rintro e w9 ⟨rfl, hb9⟩
      go_wp2_with fail
      go_ret
      exact ⟨rfl, hbr.trans ((hb8.trans (hb9.mono hb8.size)).mono hbr.size)⟩
end Go.Proofs.Ytebfaghgcecacaa
