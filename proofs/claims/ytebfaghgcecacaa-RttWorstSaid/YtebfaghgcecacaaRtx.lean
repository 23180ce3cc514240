/-
  The worst of estimates: the page's walk.
-/
import Derived.Test.YtebfaghgcecacaaRtw
namespace Go.Proofs.Ytebfaghgcecacaa
open Go.RowKit Go.Sort
set_option maxRecDepth 100000 in
set_option maxHeartbeats 3200000 in
theorem RefWorst_rtt (A : Option Addr) (n cap B : Nat) (l : List (Nat × Nat)) (w : World) (hy : RdRtts w B A n cap l) (hB : B ≤ w.heap.size) :
    Calls Try.prog 35 #[.slice A n cap] w (WRPost l w) := by
  have hn := hy.n_le
  have hst := run_store_float
  have HP0 : Hid (∀ w', allR l = false → Below w.heap.size w w' → WRPost l w (.returned (.tuple #[.agg #[.float .f64 0, .float .f64 0], .int .i64 1])) w') := by
    intro w' h1 h2
    unfold WRPost
    rw [h1]
    exact ⟨rfl, h2⟩
  have HP1 : Hid (∀ w', allR l = true → Below w.heap.size w w' → WRPost l w (.returned (.tuple #[.agg #[.float .f64 (wrt l).1, .float .f64 (wrt l).2], .int .i64 0])) w') := by
    intro w' h1 h2
    unfold WRPost
    rw [h1]
    exact ⟨rfl, h2⟩
  go_enter Try.func35, Try.ntmps35
  go_wp2_with fail
  refine (RefNew_any _).mono ?_
  rintro e w1 ⟨rfl, hb1⟩
  have hbw1 : Below w.heap.size w w1 := ((Below.refl _ _).alloc (Nat.le_refl _) _).trans (hb1.mono (by simp))
  have hz1 : w.heap.size < w1.heap.size := by have := hb1.size; simp at this; omega
  have hx1 : w1.heap[w.heap.size]? = some (.cells #[.float .f64 0, .float .f64 0] 24 (0, 0)) := by
    rw [hb1.block _ (by simp)]
    exact heap_alloc_new w _
  have Hx1 := Lib.hid hx1
  clear hx1 hb1
  go_wp2_with fail
  obtain ⟨w5, hw5⟩ : ∃ w5, w5 = w1 := ⟨_, rfl⟩
  go_loopg [5] n (fun g s5 wr => ∃ i : Nat, i + g = n ∧ s5 = .int .i64 i ∧ allR (l.take i) = true ∧ Below w.heap.size w wr ∧ w1.heap.size < wr.heap.size ∧ wr.heap[w.heap.size]? = some (.cells #[.float .f64 0, .float .f64 0] 24 (0, 0)) ∧
        wr.heap[w1.heap.size]? = some (.cells #[.float .f64 9221120237041090561, .float .f64 9221120237041090561] 24 (0, 0)))
  case atStart => exact ⟨0, by omega, rfl, rfl, hbw1.alloc (by omega) _, by simp, by rw [Below.heap_alloc _ _ _ (by omega)]; exact Hx1.out, heap_alloc_new w1 _⟩
  case round =>
    obtain ⟨i, hig, rfl, hall, hb, hzr, hx0, ho0⟩ := hrel
    have hin : i ≤ n := by omega
    have Hig := Lib.hid hig
    have Hall := Lib.hid hall
    have Hx0 := Lib.hid hx0
    have Ho0 := Lib.hid ho0
    clear hig hall hx0 ho0
    by_cases hlt : i < n
    · obtain ⟨b, off, m, v, rfl, hbB, hm, hv, c1, c2, Hst⟩ := (hy.below hb hB).step hlt
      have Hck : Hid (∀ W, Calls Try.prog 21 #[.agg #[.float .f64 m, .float .f64 v]] W fun e w' => e = .returned (.bool (chk m v)) ∧ Below W.heap.size W w') := fun W => RefRtt_any m v W hm hv
      cases hc : chk m v
      · rw [hc] at Hck
        have Hno : Hid (allR l = false) := allR_take (k := i + 1) (by rw [Hst.out.2, allR_snoc, hc, Bool.and_false])
        clear hc
        go_wp2_with fail
        refine (Hck.out _).mono ?_
        rintro e w4 ⟨rfl, hb4⟩
        have Hx4 : Hid (w4.heap[w.heap.size]? = some (.cells #[.float .f64 0, .float .f64 0] 24 (0, 0))) := (hb4.block _ (by omega)).trans Hx0.out
        go_wp2_with (refine wpList_store_row rfl 24 (.tmp 2) _ rfl w.heap.size #[.float .f64 0, .float .f64 0] rfl rfl 24 _ Hx4.out size2 rfl (rtt_one _ _) ?_)
        refine bodyPost_ret (v := .tuple #[.agg #[.float .f64 0, .float .f64 0], .int .i64 1]) (results_rttc Try.results35 _ _ w.heap.size 0 0 1 rfl rfl (setRow_heap _ _ _ _ _ _ Hx4.out)) rfl ?_
        exact HP0.out _ Hno.out (below_setRow (hb.trans (hb4.mono hb.size)) (by omega) _)
      · rw [hc] at Hck
        have Hok : Hid (allR (l.take (i + 1)) = true) := by unfold Hid; rw [Hst.out.2, allR_snoc, hc, Hall.out]; rfl
        clear hc
        go_wp2_with fail
        refine (Hck.out _).mono ?_
        rintro e w4 ⟨rfl, hb4⟩
        go_wp2_with fail
        go_roundg (gk - 1)
        case rel => exact ⟨i + 1, by have := Hig.out; omega, by go_num, Hok.out, hb.trans (hb4.mono hb.size), by have := hb4.size; omega, (hb4.block _ (by omega)).trans Hx0.out, (hb4.block _ (by omega)).trans Ho0.out⟩
        case measure => have := Hig.out; omega
    · have Hall2 : Hid (allR l = true) := by
        have := Hall.out
        rwa [List.take_of_length_le (by have := hy.1; omega)] at this
      go_wp2_with fail
      obtain ⟨wo, rfl⟩ : ∃ wo : World, wo = wr := ⟨_, rfl⟩
      go_loopg [6] n (fun g s6 wr => ∃ k : Nat, k + g = n ∧ s6 = .int .i64 k ∧ Below w.heap.size w wr ∧ w1.heap.size < wr.heap.size ∧ wr.heap[w.heap.size]? = some (.cells #[.float .f64 0, .float .f64 0] 24 (0, 0)) ∧
        wr.heap[w1.heap.size]? = some (.cells #[.float .f64 (wrt (l.take k)).1, .float .f64 (wrt (l.take k)).2] 24 (0, 0)))
      case atStart => exact ⟨0, by omega, rfl, hb, hzr, Hx0.out, Ho0.out⟩
      case round =>
        obtain ⟨k, hkg, rfl, hbk, hzk, hxk, hok⟩ := hrel
        have hkn : k ≤ n := by omega
        have Hkg := Lib.hid hkg
        have Hxk := Lib.hid hxk
        clear hkg hxk
        by_cases hk : k < n
        · obtain ⟨b, off, m, v, rfl, hbB, hm, hv, c1, c2, Hst⟩ := (hy.below hbk hB).step hk
          have HW : Hid (wrt (l.take (k + 1)) = if betterR (wrt (l.take k)) (m, v) = true then (m, v) else wrt (l.take k)) := by unfold Hid; rw [Hst.out.2, wrt_snoc]
          have hwl := wrt_lt (l := l.take k) (fun p hp => by
            obtain ⟨i, hi⟩ := List.getElem?_of_mem (List.mem_of_mem_take hp)
            exact hy.wf i p hi)
          obtain ⟨wm, wv, hwv⟩ : ∃ wm wv, wrt (l.take k) = (wm, wv) := ⟨_, _, rfl⟩
          rw [hwv] at HW hwl hok
          unfold betterR at HW
          dsimp only at HW hwl hok
          clear hwv
          have HK1 : Hid (∀ w, Calls Try.prog 45 #[.agg #[.float .f64 m, .float .f64 v]] w fun e w' => e = .returned (.bool (!isNan m)) ∧ Below w.heap.size w w') := fun w => Refknown_any m v w
          have HK2 : Hid (∀ w, Calls Try.prog 45 #[.agg #[.float .f64 wm, .float .f64 wv]] w fun e w' => e = .returned (.bool (!isNan wm)) ∧ Below w.heap.size w w') := fun w => Refknown_any wm wv w
          have HL1 : Hid (∀ w, Calls Try.prog 18 #[.float .f64 wm, .float .f64 m] w fun e w' => e = .returned (.bool (lessB wm m)) ∧ Below w.heap.size w w') := fun w => (RefLess_any wm m w hwl.1 hm).mono fun e w' ⟨h1, h2⟩ => ⟨h1, by rw [← h2]; exact Below.refl _ _⟩
          have HL2 : Hid (∀ w, Calls Try.prog 18 #[.float .f64 wv, .float .f64 v] w fun e w' => e = .returned (.bool (lessB wv v)) ∧ Below w.heap.size w w') := fun w => (RefLess_any wv v w hwl.2 hv).mono fun e w' ⟨h1, h2⟩ => ⟨h1, by rw [← h2]; exact Below.refl _ _⟩
          have HS : Hid (∀ w, Calls Try.prog 59 #[.float .f64 wm, .float .f64 m] w fun e w' => e = .returned (.bool (sameB wm m)) ∧ Below w.heap.size w w') := fun w => (RefSame_any wm m w hwl.1 hm).mono fun e w' ⟨h1, h2⟩ => ⟨h1, by rw [← h2]; exact Below.refl _ _⟩
          have hbz : b < wr.heap.size := by omega
          have Hf : Hid (∀ w' : World, Below wr.heap.size wr w' → w'.cell? ⟨w1.heap.size, 0, none⟩ = some (.float .f64 wm) ∧ w'.cell? ⟨w1.heap.size, 1, none⟩ = some (.float .f64 wv) ∧ w'.cell? ⟨b, off + k * 2, none⟩ = some (.float .f64 m) ∧ w'.cell? ⟨b, off + k * 2 + 1, none⟩ = some (.float .f64 v) ∧ w'.frozen? ⟨w1.heap.size, 0, none⟩ = false ∧ w'.frozen? ⟨w1.heap.size, 1, none⟩ = false) := fun w' h => by
            have h1 := (h.block w1.heap.size hzk).trans hok
            exact ⟨cell_of_row _ _ _ _ _ _ h1, cell_of_row _ _ _ _ _ _ h1, (h.cell (p := ⟨b, off + k * 2, none⟩) hbz).trans c1, (h.cell (p := ⟨b, off + k * 2 + 1, none⟩) hbz).trans c2, frozen_of_row _ _ _ _ _ h1, frozen_of_row _ _ _ _ _ h1⟩
          have Hg : Hid (∀ w' : World, Below wr.heap.size wr w' → w'.heap[w1.heap.size]? = some (.cells #[.float .f64 wm, .float .f64 wv] 24 (0, 0)) ∧ w'.heap[w.heap.size]? = some (.cells #[.float .f64 0, .float .f64 0] 24 (0, 0)) ∧ Below w.heap.size w w' ∧ w1.heap.size < w'.heap.size) := fun w' h =>
            ⟨(h.block _ (by omega)).trans hok, (h.block _ (by omega)).trans Hxk.out, hbk.trans (h.mono hbk.size), by have := h.size; omega⟩
          have hbc : Below wr.heap.size wr wr := Below.refl _ _
          clear hok c1 c2
          obtain ⟨x0, x1, x2, x3, x4, x5⟩ := Hf.out _ hbc
          cases n1 : isNan m
          · cases n2 : isNan wm
            · cases l1 : lessB wm m
              · cases s1 : sameB wm m
                · rw [n1] at HK1 HW
                  try rw [n2] at HK2 HW
                  try rw [l1] at HL1 HW
                  try rw [s1] at HS HW
                  try rw [l2] at HL2 HW
                  simp at HW HK1 HK2
                  go_wp2_with (first
                    | (go_at_call 45
                       (with_reducible refine (HK1.out _).mono ?_)
                       rintro e w7 ⟨rfl, hb7⟩
                       have hbn : Below wr.heap.size wr w7 := hbc.trans (hb7.mono hbc.size)
                       clear hbc hb7 x0 x1 x2 x3 x4 x5
                       have hbc := hbn
                       clear hbn
                       obtain ⟨x0, x1, x2, x3, x4, x5⟩ := Hf.out _ hbc)
                    | (go_at_call 45
                       (with_reducible refine (HK2.out _).mono ?_)
                       rintro e w7 ⟨rfl, hb7⟩
                       have hbn : Below wr.heap.size wr w7 := hbc.trans (hb7.mono hbc.size)
                       clear hbc hb7 x0 x1 x2 x3 x4 x5
                       have hbc := hbn
                       clear hbn
                       obtain ⟨x0, x1, x2, x3, x4, x5⟩ := Hf.out _ hbc)
                    | (go_at_call 18
                       (with_reducible refine (HL1.out _).mono ?_)
                       rintro e w7 ⟨rfl, hb7⟩
                       have hbn : Below wr.heap.size wr w7 := hbc.trans (hb7.mono hbc.size)
                       clear hbc hb7 x0 x1 x2 x3 x4 x5
                       have hbc := hbn
                       clear hbn
                       obtain ⟨x0, x1, x2, x3, x4, x5⟩ := Hf.out _ hbc)
                    | (go_at_call 18
                       (with_reducible refine (HL2.out _).mono ?_)
                       rintro e w7 ⟨rfl, hb7⟩
                       have hbn : Below wr.heap.size wr w7 := hbc.trans (hb7.mono hbc.size)
                       clear hbc hb7 x0 x1 x2 x3 x4 x5
                       have hbc := hbn
                       clear hbn
                       obtain ⟨x0, x1, x2, x3, x4, x5⟩ := Hf.out _ hbc)
                    | (go_at_call 59
                       (with_reducible refine (HS.out _).mono ?_)
                       rintro e w7 ⟨rfl, hb7⟩
                       have hbn : Below wr.heap.size wr w7 := hbc.trans (hb7.mono hbc.size)
                       clear hbc hb7 x0 x1 x2 x3 x4 x5
                       have hbc := hbn
                       clear hbn
                       obtain ⟨x0, x1, x2, x3, x4, x5⟩ := Hf.out _ hbc))
                  try (
                    have z0 := cell_regrown x0
                    have z1 := cell_regrown x1
                    have z2 := cell_regrown x2
                    have z3 := cell_regrown x3
                    refine wp_region_quiet_below (by kernel_rfl) (by kernel_rfl) ?_
                    repeat (with_reducible refine wpQuiet_step ?_; intro K hK; go_simp; first | (with_reducible refine hK _ ?_; clear hK K) | (rw [if_neg (by first | decide | (simp [undef]) | (intro h; cases h))]; with_reducible refine hK _ ?_; clear hK K) | (apply Exists.intro; with_reducible refine ⟨fun _ => ?_, hK _ ?_⟩; (first | (with_reducible exact Calls.regrown_of (HK2.out _)) | (with_reducible exact Calls.regrown_of (HL1.out _)) | (with_reducible exact Calls.regrown_of (HL2.out _)) | (with_reducible exact Calls.regrown_of (HS.out _))); clear hK K))
                    with_reducible refine wpQuiet_nil ?_
                    intro w8 hw8
                    have hbn : Below wr.heap.size wr w8 := hbc.trans (by
                      obtain ⟨⟨dq, osq⟩, hw''⟩ := hw8
                      rw [hw'']
                      exact (below_regrown _ _ _).mono hbc.size)
                    clear hw8 z0 z1 z2 z3 x0 x1 x2 x3 x4 x5 hbc
                    have hbc := hbn
                    clear hbn
                    obtain ⟨x0, x1, x2, x3, x4, x5⟩ := Hf.out _ hbc
                    go_wp2_with fail)
                  go_roundg (gk - 1)
                  case rel =>
                    obtain ⟨hg1, hg2, hg3, hg4⟩ := Hg.out _ hbc
                    have hz55 : w.heap.size ≤ w1.heap.size := by omega
                    refine ⟨k + 1, by have := Hkg.out; omega, by go_num, ?_, ?_, ?_, ?_⟩
                    all_goals first
                      | with_reducible exact hg3
                      | exact (hg3.setCell hz55 _).setCell hz55 _
                      | with_reducible exact hg4
                      | with_reducible exact hg2
                      | (simp only [World.setCell, Array.size_modify]; with_reducible exact hg4)
                      | (rw [heap_setCell_other _ _ _ _ (by show w.heap.size ≠ w1.heap.size; omega), heap_setCell_other _ _ _ _ (by show w.heap.size ≠ w1.heap.size; omega)]; with_reducible exact hg2)
                      | (rw [HW.out]; with_reducible exact hg1)
                      | (rw [HW.out, heap_setCell_same _ _ _ _ _ _ (heap_setCell_same _ _ _ _ _ _ hg1)]; rfl)
                  case measure => have := Hkg.out; omega
                · cases l2 : lessB wv v
                  · rw [n1] at HK1 HW
                    try rw [n2] at HK2 HW
                    try rw [l1] at HL1 HW
                    try rw [s1] at HS HW
                    try rw [l2] at HL2 HW
                    simp at HW HK1 HK2
                    go_wp2_with (first
                      | (go_at_call 45
                         (with_reducible refine (HK1.out _).mono ?_)
                         rintro e w7 ⟨rfl, hb7⟩
                         have hbn : Below wr.heap.size wr w7 := hbc.trans (hb7.mono hbc.size)
                         clear hbc hb7 x0 x1 x2 x3 x4 x5
                         have hbc := hbn
                         clear hbn
                         obtain ⟨x0, x1, x2, x3, x4, x5⟩ := Hf.out _ hbc)
                      | (go_at_call 45
                         (with_reducible refine (HK2.out _).mono ?_)
                         rintro e w7 ⟨rfl, hb7⟩
                         have hbn : Below wr.heap.size wr w7 := hbc.trans (hb7.mono hbc.size)
                         clear hbc hb7 x0 x1 x2 x3 x4 x5
                         have hbc := hbn
                         clear hbn
                         obtain ⟨x0, x1, x2, x3, x4, x5⟩ := Hf.out _ hbc)
                      | (go_at_call 18
                         (with_reducible refine (HL1.out _).mono ?_)
                         rintro e w7 ⟨rfl, hb7⟩
                         have hbn : Below wr.heap.size wr w7 := hbc.trans (hb7.mono hbc.size)
                         clear hbc hb7 x0 x1 x2 x3 x4 x5
                         have hbc := hbn
                         clear hbn
                         obtain ⟨x0, x1, x2, x3, x4, x5⟩ := Hf.out _ hbc)
                      | (go_at_call 18
                         (with_reducible refine (HL2.out _).mono ?_)
                         rintro e w7 ⟨rfl, hb7⟩
                         have hbn : Below wr.heap.size wr w7 := hbc.trans (hb7.mono hbc.size)
                         clear hbc hb7 x0 x1 x2 x3 x4 x5
                         have hbc := hbn
                         clear hbn
                         obtain ⟨x0, x1, x2, x3, x4, x5⟩ := Hf.out _ hbc)
                      | (go_at_call 59
                         (with_reducible refine (HS.out _).mono ?_)
                         rintro e w7 ⟨rfl, hb7⟩
                         have hbn : Below wr.heap.size wr w7 := hbc.trans (hb7.mono hbc.size)
                         clear hbc hb7 x0 x1 x2 x3 x4 x5
                         have hbc := hbn
                         clear hbn
                         obtain ⟨x0, x1, x2, x3, x4, x5⟩ := Hf.out _ hbc))
                    try (
                      have z0 := cell_regrown x0
                      have z1 := cell_regrown x1
                      have z2 := cell_regrown x2
                      have z3 := cell_regrown x3
                      refine wp_region_quiet_below (by kernel_rfl) (by kernel_rfl) ?_
                      repeat (with_reducible refine wpQuiet_step ?_; intro K hK; go_simp; first | (with_reducible refine hK _ ?_; clear hK K) | (rw [if_neg (by first | decide | (simp [undef]) | (intro h; cases h))]; with_reducible refine hK _ ?_; clear hK K) | (apply Exists.intro; with_reducible refine ⟨fun _ => ?_, hK _ ?_⟩; (first | (with_reducible exact Calls.regrown_of (HK2.out _)) | (with_reducible exact Calls.regrown_of (HL1.out _)) | (with_reducible exact Calls.regrown_of (HL2.out _)) | (with_reducible exact Calls.regrown_of (HS.out _))); clear hK K))
                      with_reducible refine wpQuiet_nil ?_
                      intro w8 hw8
                      have hbn : Below wr.heap.size wr w8 := hbc.trans (by
                        obtain ⟨⟨dq, osq⟩, hw''⟩ := hw8
                        rw [hw'']
                        exact (below_regrown _ _ _).mono hbc.size)
                      clear hw8 z0 z1 z2 z3 x0 x1 x2 x3 x4 x5 hbc
                      have hbc := hbn
                      clear hbn
                      obtain ⟨x0, x1, x2, x3, x4, x5⟩ := Hf.out _ hbc
                      go_wp2_with fail)
                    go_roundg (gk - 1)
                    case rel =>
                      obtain ⟨hg1, hg2, hg3, hg4⟩ := Hg.out _ hbc
                      have hz55 : w.heap.size ≤ w1.heap.size := by omega
                      refine ⟨k + 1, by have := Hkg.out; omega, by go_num, ?_, ?_, ?_, ?_⟩
                      all_goals first
                        | with_reducible exact hg3
                        | exact (hg3.setCell hz55 _).setCell hz55 _
                        | with_reducible exact hg4
                        | with_reducible exact hg2
                        | (simp only [World.setCell, Array.size_modify]; with_reducible exact hg4)
                        | (rw [heap_setCell_other _ _ _ _ (by show w.heap.size ≠ w1.heap.size; omega), heap_setCell_other _ _ _ _ (by show w.heap.size ≠ w1.heap.size; omega)]; with_reducible exact hg2)
                        | (rw [HW.out]; with_reducible exact hg1)
                        | (rw [HW.out, heap_setCell_same _ _ _ _ _ _ (heap_setCell_same _ _ _ _ _ _ hg1)]; rfl)
                    case measure => have := Hkg.out; omega
                  · rw [n1] at HK1 HW
                    try rw [n2] at HK2 HW
                    try rw [l1] at HL1 HW
                    try rw [s1] at HS HW
                    try rw [l2] at HL2 HW
                    simp at HW HK1 HK2
                    go_wp2_with (first
                      | (go_at_call 45
                         (with_reducible refine (HK1.out _).mono ?_)
                         rintro e w7 ⟨rfl, hb7⟩
                         have hbn : Below wr.heap.size wr w7 := hbc.trans (hb7.mono hbc.size)
                         clear hbc hb7 x0 x1 x2 x3 x4 x5
                         have hbc := hbn
                         clear hbn
                         obtain ⟨x0, x1, x2, x3, x4, x5⟩ := Hf.out _ hbc)
                      | (go_at_call 45
                         (with_reducible refine (HK2.out _).mono ?_)
                         rintro e w7 ⟨rfl, hb7⟩
                         have hbn : Below wr.heap.size wr w7 := hbc.trans (hb7.mono hbc.size)
                         clear hbc hb7 x0 x1 x2 x3 x4 x5
                         have hbc := hbn
                         clear hbn
                         obtain ⟨x0, x1, x2, x3, x4, x5⟩ := Hf.out _ hbc)
                      | (go_at_call 18
                         (with_reducible refine (HL1.out _).mono ?_)
                         rintro e w7 ⟨rfl, hb7⟩
                         have hbn : Below wr.heap.size wr w7 := hbc.trans (hb7.mono hbc.size)
                         clear hbc hb7 x0 x1 x2 x3 x4 x5
                         have hbc := hbn
                         clear hbn
                         obtain ⟨x0, x1, x2, x3, x4, x5⟩ := Hf.out _ hbc)
                      | (go_at_call 18
                         (with_reducible refine (HL2.out _).mono ?_)
                         rintro e w7 ⟨rfl, hb7⟩
                         have hbn : Below wr.heap.size wr w7 := hbc.trans (hb7.mono hbc.size)
                         clear hbc hb7 x0 x1 x2 x3 x4 x5
                         have hbc := hbn
                         clear hbn
                         obtain ⟨x0, x1, x2, x3, x4, x5⟩ := Hf.out _ hbc)
                      | (go_at_call 59
                         (with_reducible refine (HS.out _).mono ?_)
                         rintro e w7 ⟨rfl, hb7⟩
                         have hbn : Below wr.heap.size wr w7 := hbc.trans (hb7.mono hbc.size)
                         clear hbc hb7 x0 x1 x2 x3 x4 x5
                         have hbc := hbn
                         clear hbn
                         obtain ⟨x0, x1, x2, x3, x4, x5⟩ := Hf.out _ hbc))
                    try (
                      have z0 := cell_regrown x0
                      have z1 := cell_regrown x1
                      have z2 := cell_regrown x2
                      have z3 := cell_regrown x3
                      refine wp_region_quiet_below (by kernel_rfl) (by kernel_rfl) ?_
                      repeat (with_reducible refine wpQuiet_step ?_; intro K hK; go_simp; first | (with_reducible refine hK _ ?_; clear hK K) | (rw [if_neg (by first | decide | (simp [undef]) | (intro h; cases h))]; with_reducible refine hK _ ?_; clear hK K) | (apply Exists.intro; with_reducible refine ⟨fun _ => ?_, hK _ ?_⟩; (first | (with_reducible exact Calls.regrown_of (HK2.out _)) | (with_reducible exact Calls.regrown_of (HL1.out _)) | (with_reducible exact Calls.regrown_of (HL2.out _)) | (with_reducible exact Calls.regrown_of (HS.out _))); clear hK K))
                      with_reducible refine wpQuiet_nil ?_
                      intro w8 hw8
                      have hbn : Below wr.heap.size wr w8 := hbc.trans (by
                        obtain ⟨⟨dq, osq⟩, hw''⟩ := hw8
                        rw [hw'']
                        exact (below_regrown _ _ _).mono hbc.size)
                      clear hw8 z0 z1 z2 z3 x0 x1 x2 x3 x4 x5 hbc
                      have hbc := hbn
                      clear hbn
                      obtain ⟨x0, x1, x2, x3, x4, x5⟩ := Hf.out _ hbc
                      go_wp2_with fail)
                    go_roundg (gk - 1)
                    case rel =>
                      obtain ⟨hg1, hg2, hg3, hg4⟩ := Hg.out _ hbc
                      have hz55 : w.heap.size ≤ w1.heap.size := by omega
                      refine ⟨k + 1, by have := Hkg.out; omega, by go_num, ?_, ?_, ?_, ?_⟩
                      all_goals first
                        | with_reducible exact hg3
                        | exact (hg3.setCell hz55 _).setCell hz55 _
                        | with_reducible exact hg4
                        | with_reducible exact hg2
                        | (simp only [World.setCell, Array.size_modify]; with_reducible exact hg4)
                        | (rw [heap_setCell_other _ _ _ _ (by show w.heap.size ≠ w1.heap.size; omega), heap_setCell_other _ _ _ _ (by show w.heap.size ≠ w1.heap.size; omega)]; with_reducible exact hg2)
                        | (rw [HW.out]; with_reducible exact hg1)
                        | (rw [HW.out, heap_setCell_same _ _ _ _ _ _ (heap_setCell_same _ _ _ _ _ _ hg1)]; rfl)
                    case measure => have := Hkg.out; omega
              · rw [n1] at HK1 HW
                try rw [n2] at HK2 HW
                try rw [l1] at HL1 HW
                try rw [s1] at HS HW
                try rw [l2] at HL2 HW
                simp at HW HK1 HK2
                go_wp2_with (first
                  | (go_at_call 45
                     (with_reducible refine (HK1.out _).mono ?_)
                     rintro e w7 ⟨rfl, hb7⟩
                     have hbn : Below wr.heap.size wr w7 := hbc.trans (hb7.mono hbc.size)
                     clear hbc hb7 x0 x1 x2 x3 x4 x5
                     have hbc := hbn
                     clear hbn
                     obtain ⟨x0, x1, x2, x3, x4, x5⟩ := Hf.out _ hbc)
                  | (go_at_call 45
                     (with_reducible refine (HK2.out _).mono ?_)
                     rintro e w7 ⟨rfl, hb7⟩
                     have hbn : Below wr.heap.size wr w7 := hbc.trans (hb7.mono hbc.size)
                     clear hbc hb7 x0 x1 x2 x3 x4 x5
                     have hbc := hbn
                     clear hbn
                     obtain ⟨x0, x1, x2, x3, x4, x5⟩ := Hf.out _ hbc)
                  | (go_at_call 18
                     (with_reducible refine (HL1.out _).mono ?_)
                     rintro e w7 ⟨rfl, hb7⟩
                     have hbn : Below wr.heap.size wr w7 := hbc.trans (hb7.mono hbc.size)
                     clear hbc hb7 x0 x1 x2 x3 x4 x5
                     have hbc := hbn
                     clear hbn
                     obtain ⟨x0, x1, x2, x3, x4, x5⟩ := Hf.out _ hbc)
                  | (go_at_call 18
                     (with_reducible refine (HL2.out _).mono ?_)
                     rintro e w7 ⟨rfl, hb7⟩
                     have hbn : Below wr.heap.size wr w7 := hbc.trans (hb7.mono hbc.size)
                     clear hbc hb7 x0 x1 x2 x3 x4 x5
                     have hbc := hbn
                     clear hbn
                     obtain ⟨x0, x1, x2, x3, x4, x5⟩ := Hf.out _ hbc)
                  | (go_at_call 59
                     (with_reducible refine (HS.out _).mono ?_)
                     rintro e w7 ⟨rfl, hb7⟩
                     have hbn : Below wr.heap.size wr w7 := hbc.trans (hb7.mono hbc.size)
                     clear hbc hb7 x0 x1 x2 x3 x4 x5
                     have hbc := hbn
                     clear hbn
                     obtain ⟨x0, x1, x2, x3, x4, x5⟩ := Hf.out _ hbc))
                try (
                  have z0 := cell_regrown x0
                  have z1 := cell_regrown x1
                  have z2 := cell_regrown x2
                  have z3 := cell_regrown x3
                  refine wp_region_quiet_below (by kernel_rfl) (by kernel_rfl) ?_
                  repeat (with_reducible refine wpQuiet_step ?_; intro K hK; go_simp; first | (with_reducible refine hK _ ?_; clear hK K) | (rw [if_neg (by first | decide | (simp [undef]) | (intro h; cases h))]; with_reducible refine hK _ ?_; clear hK K) | (apply Exists.intro; with_reducible refine ⟨fun _ => ?_, hK _ ?_⟩; (first | (with_reducible exact Calls.regrown_of (HK2.out _)) | (with_reducible exact Calls.regrown_of (HL1.out _)) | (with_reducible exact Calls.regrown_of (HL2.out _)) | (with_reducible exact Calls.regrown_of (HS.out _))); clear hK K))
                  with_reducible refine wpQuiet_nil ?_
                  intro w8 hw8
                  have hbn : Below wr.heap.size wr w8 := hbc.trans (by
                    obtain ⟨⟨dq, osq⟩, hw''⟩ := hw8
                    rw [hw'']
                    exact (below_regrown _ _ _).mono hbc.size)
                  clear hw8 z0 z1 z2 z3 x0 x1 x2 x3 x4 x5 hbc
                  have hbc := hbn
                  clear hbn
                  obtain ⟨x0, x1, x2, x3, x4, x5⟩ := Hf.out _ hbc
                  go_wp2_with fail)
                go_roundg (gk - 1)
                case rel =>
                  obtain ⟨hg1, hg2, hg3, hg4⟩ := Hg.out _ hbc
                  have hz55 : w.heap.size ≤ w1.heap.size := by omega
                  refine ⟨k + 1, by have := Hkg.out; omega, by go_num, ?_, ?_, ?_, ?_⟩
                  all_goals first
                    | with_reducible exact hg3
                    | exact (hg3.setCell hz55 _).setCell hz55 _
                    | with_reducible exact hg4
                    | with_reducible exact hg2
                    | (simp only [World.setCell, Array.size_modify]; with_reducible exact hg4)
                    | (rw [heap_setCell_other _ _ _ _ (by show w.heap.size ≠ w1.heap.size; omega), heap_setCell_other _ _ _ _ (by show w.heap.size ≠ w1.heap.size; omega)]; with_reducible exact hg2)
                    | (rw [HW.out]; with_reducible exact hg1)
                    | (rw [HW.out, heap_setCell_same _ _ _ _ _ _ (heap_setCell_same _ _ _ _ _ _ hg1)]; rfl)
                case measure => have := Hkg.out; omega
            · rw [n1] at HK1 HW
              try rw [n2] at HK2 HW
              try rw [l1] at HL1 HW
              try rw [s1] at HS HW
              try rw [l2] at HL2 HW
              simp at HW HK1 HK2
              go_wp2_with (first
                | (go_at_call 45
                   (with_reducible refine (HK1.out _).mono ?_)
                   rintro e w7 ⟨rfl, hb7⟩
                   have hbn : Below wr.heap.size wr w7 := hbc.trans (hb7.mono hbc.size)
                   clear hbc hb7 x0 x1 x2 x3 x4 x5
                   have hbc := hbn
                   clear hbn
                   obtain ⟨x0, x1, x2, x3, x4, x5⟩ := Hf.out _ hbc)
                | (go_at_call 45
                   (with_reducible refine (HK2.out _).mono ?_)
                   rintro e w7 ⟨rfl, hb7⟩
                   have hbn : Below wr.heap.size wr w7 := hbc.trans (hb7.mono hbc.size)
                   clear hbc hb7 x0 x1 x2 x3 x4 x5
                   have hbc := hbn
                   clear hbn
                   obtain ⟨x0, x1, x2, x3, x4, x5⟩ := Hf.out _ hbc)
                | (go_at_call 18
                   (with_reducible refine (HL1.out _).mono ?_)
                   rintro e w7 ⟨rfl, hb7⟩
                   have hbn : Below wr.heap.size wr w7 := hbc.trans (hb7.mono hbc.size)
                   clear hbc hb7 x0 x1 x2 x3 x4 x5
                   have hbc := hbn
                   clear hbn
                   obtain ⟨x0, x1, x2, x3, x4, x5⟩ := Hf.out _ hbc)
                | (go_at_call 18
                   (with_reducible refine (HL2.out _).mono ?_)
                   rintro e w7 ⟨rfl, hb7⟩
                   have hbn : Below wr.heap.size wr w7 := hbc.trans (hb7.mono hbc.size)
                   clear hbc hb7 x0 x1 x2 x3 x4 x5
                   have hbc := hbn
                   clear hbn
                   obtain ⟨x0, x1, x2, x3, x4, x5⟩ := Hf.out _ hbc)
                | (go_at_call 59
                   (with_reducible refine (HS.out _).mono ?_)
                   rintro e w7 ⟨rfl, hb7⟩
                   have hbn : Below wr.heap.size wr w7 := hbc.trans (hb7.mono hbc.size)
                   clear hbc hb7 x0 x1 x2 x3 x4 x5
                   have hbc := hbn
                   clear hbn
                   obtain ⟨x0, x1, x2, x3, x4, x5⟩ := Hf.out _ hbc))
              try (
                have z0 := cell_regrown x0
                have z1 := cell_regrown x1
                have z2 := cell_regrown x2
                have z3 := cell_regrown x3
                refine wp_region_quiet_below (by kernel_rfl) (by kernel_rfl) ?_
                repeat (with_reducible refine wpQuiet_step ?_; intro K hK; go_simp; first | (with_reducible refine hK _ ?_; clear hK K) | (rw [if_neg (by first | decide | (simp [undef]) | (intro h; cases h))]; with_reducible refine hK _ ?_; clear hK K) | (apply Exists.intro; with_reducible refine ⟨fun _ => ?_, hK _ ?_⟩; (first | (with_reducible exact Calls.regrown_of (HK2.out _)) | (with_reducible exact Calls.regrown_of (HL1.out _)) | (with_reducible exact Calls.regrown_of (HL2.out _)) | (with_reducible exact Calls.regrown_of (HS.out _))); clear hK K))
                with_reducible refine wpQuiet_nil ?_
                intro w8 hw8
                have hbn : Below wr.heap.size wr w8 := hbc.trans (by
                  obtain ⟨⟨dq, osq⟩, hw''⟩ := hw8
                  rw [hw'']
                  exact (below_regrown _ _ _).mono hbc.size)
                clear hw8 z0 z1 z2 z3 x0 x1 x2 x3 x4 x5 hbc
                have hbc := hbn
                clear hbn
                obtain ⟨x0, x1, x2, x3, x4, x5⟩ := Hf.out _ hbc
                go_wp2_with fail)
              go_roundg (gk - 1)
              case rel =>
                obtain ⟨hg1, hg2, hg3, hg4⟩ := Hg.out _ hbc
                have hz55 : w.heap.size ≤ w1.heap.size := by omega
                refine ⟨k + 1, by have := Hkg.out; omega, by go_num, ?_, ?_, ?_, ?_⟩
                all_goals first
                  | with_reducible exact hg3
                  | exact (hg3.setCell hz55 _).setCell hz55 _
                  | with_reducible exact hg4
                  | with_reducible exact hg2
                  | (simp only [World.setCell, Array.size_modify]; with_reducible exact hg4)
                  | (rw [heap_setCell_other _ _ _ _ (by show w.heap.size ≠ w1.heap.size; omega), heap_setCell_other _ _ _ _ (by show w.heap.size ≠ w1.heap.size; omega)]; with_reducible exact hg2)
                  | (rw [HW.out]; with_reducible exact hg1)
                  | (rw [HW.out, heap_setCell_same _ _ _ _ _ _ (heap_setCell_same _ _ _ _ _ _ hg1)]; rfl)
              case measure => have := Hkg.out; omega
          · rw [n1] at HK1 HW
            try rw [n2] at HK2 HW
            try rw [l1] at HL1 HW
            try rw [s1] at HS HW
            try rw [l2] at HL2 HW
            simp at HW HK1 HK2
            go_wp2_with (first
              | (go_at_call 45
                 (with_reducible refine (HK1.out _).mono ?_)
                 rintro e w7 ⟨rfl, hb7⟩
                 have hbn : Below wr.heap.size wr w7 := hbc.trans (hb7.mono hbc.size)
                 clear hbc hb7 x0 x1 x2 x3 x4 x5
                 have hbc := hbn
                 clear hbn
                 obtain ⟨x0, x1, x2, x3, x4, x5⟩ := Hf.out _ hbc)
              | (go_at_call 45
                 (with_reducible refine (HK2.out _).mono ?_)
                 rintro e w7 ⟨rfl, hb7⟩
                 have hbn : Below wr.heap.size wr w7 := hbc.trans (hb7.mono hbc.size)
                 clear hbc hb7 x0 x1 x2 x3 x4 x5
                 have hbc := hbn
                 clear hbn
                 obtain ⟨x0, x1, x2, x3, x4, x5⟩ := Hf.out _ hbc)
              | (go_at_call 18
                 (with_reducible refine (HL1.out _).mono ?_)
                 rintro e w7 ⟨rfl, hb7⟩
                 have hbn : Below wr.heap.size wr w7 := hbc.trans (hb7.mono hbc.size)
                 clear hbc hb7 x0 x1 x2 x3 x4 x5
                 have hbc := hbn
                 clear hbn
                 obtain ⟨x0, x1, x2, x3, x4, x5⟩ := Hf.out _ hbc)
              | (go_at_call 18
                 (with_reducible refine (HL2.out _).mono ?_)
                 rintro e w7 ⟨rfl, hb7⟩
                 have hbn : Below wr.heap.size wr w7 := hbc.trans (hb7.mono hbc.size)
                 clear hbc hb7 x0 x1 x2 x3 x4 x5
                 have hbc := hbn
                 clear hbn
                 obtain ⟨x0, x1, x2, x3, x4, x5⟩ := Hf.out _ hbc)
              | (go_at_call 59
                 (with_reducible refine (HS.out _).mono ?_)
                 rintro e w7 ⟨rfl, hb7⟩
                 have hbn : Below wr.heap.size wr w7 := hbc.trans (hb7.mono hbc.size)
                 clear hbc hb7 x0 x1 x2 x3 x4 x5
                 have hbc := hbn
                 clear hbn
                 obtain ⟨x0, x1, x2, x3, x4, x5⟩ := Hf.out _ hbc))
            try (
              have z0 := cell_regrown x0
              have z1 := cell_regrown x1
              have z2 := cell_regrown x2
              have z3 := cell_regrown x3
              refine wp_region_quiet_below (by kernel_rfl) (by kernel_rfl) ?_
              repeat (with_reducible refine wpQuiet_step ?_; intro K hK; go_simp; first | (with_reducible refine hK _ ?_; clear hK K) | (rw [if_neg (by first | decide | (simp [undef]) | (intro h; cases h))]; with_reducible refine hK _ ?_; clear hK K) | (apply Exists.intro; with_reducible refine ⟨fun _ => ?_, hK _ ?_⟩; (first | (with_reducible exact Calls.regrown_of (HK2.out _)) | (with_reducible exact Calls.regrown_of (HL1.out _)) | (with_reducible exact Calls.regrown_of (HL2.out _)) | (with_reducible exact Calls.regrown_of (HS.out _))); clear hK K))
              with_reducible refine wpQuiet_nil ?_
              intro w8 hw8
              have hbn : Below wr.heap.size wr w8 := hbc.trans (by
                obtain ⟨⟨dq, osq⟩, hw''⟩ := hw8
                rw [hw'']
                exact (below_regrown _ _ _).mono hbc.size)
              clear hw8 z0 z1 z2 z3 x0 x1 x2 x3 x4 x5 hbc
              have hbc := hbn
              clear hbn
              obtain ⟨x0, x1, x2, x3, x4, x5⟩ := Hf.out _ hbc
              go_wp2_with fail)
            go_roundg (gk - 1)
            case rel =>
              obtain ⟨hg1, hg2, hg3, hg4⟩ := Hg.out _ hbc
              have hz55 : w.heap.size ≤ w1.heap.size := by omega
              refine ⟨k + 1, by have := Hkg.out; omega, by go_num, ?_, ?_, ?_, ?_⟩
              all_goals first
                | with_reducible exact hg3
                | exact (hg3.setCell hz55 _).setCell hz55 _
                | with_reducible exact hg4
                | with_reducible exact hg2
                | (simp only [World.setCell, Array.size_modify]; with_reducible exact hg4)
                | (rw [heap_setCell_other _ _ _ _ (by show w.heap.size ≠ w1.heap.size; omega), heap_setCell_other _ _ _ _ (by show w.heap.size ≠ w1.heap.size; omega)]; with_reducible exact hg2)
                | (rw [HW.out]; with_reducible exact hg1)
                | (rw [HW.out, heap_setCell_same _ _ _ _ _ _ (heap_setCell_same _ _ _ _ _ _ hg1)]; rfl)
            case measure => have := Hkg.out; omega
        · have hkn' : l.take k = l := List.take_of_length_le (by have := hy.1; omega)
          rw [hkn'] at hok
          have y0 : wr.cell? ⟨w1.heap.size, 0, none⟩ = some (.float .f64 (wrt l).1) := cell_of_row _ _ _ _ _ _ hok
          have y1 : wr.cell? ⟨w1.heap.size, 1, none⟩ = some (.float .f64 (wrt l).2) := cell_of_row _ _ _ _ _ _ hok
          clear hok hkn'
          go_wp2_with (refine wpList_store_row rfl 24 (.tmp 2) _ rfl w.heap.size #[.float .f64 (wrt l).1, .float .f64 (wrt l).2] rfl rfl 24 _ Hxk.out size2 rfl (rtt_one _ _) ?_)
          refine bodyPost_ret (v := .tuple #[.agg #[.float .f64 (wrt l).1, .float .f64 (wrt l).2], .int .i64 0]) (results_rttc Try.results35 _ _ w.heap.size _ _ 0 rfl rfl (setRow_heap _ _ _ _ _ _ Hxk.out)) rfl ?_
          exact HP1.out _ Hall2.out (below_setRow hbk (by omega) _)
end Go.Proofs.Ytebfaghgcecacaa
