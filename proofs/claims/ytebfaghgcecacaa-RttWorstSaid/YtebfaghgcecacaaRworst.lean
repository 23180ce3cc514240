/-
  The walk of RttWorst.
-/
import Derived.Test.YtebfaghgcecacaaRtx
namespace Go.Proofs.Ytebfaghgcecacaa
open Go.RowKit
set_option maxRecDepth 100000 in
set_option maxHeartbeats 6400000 in
theorem rworst_walk (A : Option Addr) (n cap : Nat) (l : List (Nat × Nat)) (W : World) (hy : RdRtts W W.heap.size A n cap l) :
    Calls Try.prog 11 #[.slice A n cap] W fun e w' => e = .returned (.bool true) ∧ Below W.heap.size W w' := by
  have hn := hy.n_le
  have hst := run_store_float
  by_cases h100 : 300 < n
  · go_enter Try.func11, Try.ntmps11
    go_wp2_with fail
    go_ret
    exact ⟨rfl, Below.refl _ _⟩
  obtain ⟨i0, hi, hi0, hi1, hi2⟩ := info_parts info_rtt
  have hw := hy.wf
  have hy3 := hy.rd
  have HW : Hid (∀ w A n cap, RdRtts w w.heap.size A n cap l → Calls Try.prog 34 #[.slice A n cap] w (WRPost l w)) := fun w A n cap h => Worst_rtt A n cap _ l w h (Nat.le_refl _)
  have HR : Hid (∀ w, Below W.heap.size W w → Calls Try.prog 35 #[.slice A n cap] w (WRPost l w)) := fun w hb => RefWorst_rtt A n cap _ l w (hy.below hb (Nat.le_refl _)) hb.size
  obtain ⟨a, v, e1, hae⟩ : ∃ (a v : Nat) (e1 : Int), (if allR l = true then Value.tuple #[.agg #[.float .f64 (wrt l).1, .float .f64 (wrt l).2], .int .i64 0] else .tuple #[.agg #[.float .f64 0, .float .f64 0], .int .i64 1]) = Value.tuple #[.agg #[.float .f64 a, .float .f64 v], .int .i64 e1] := by
    split
    · exact ⟨_, _, _, rfl⟩
    · exact ⟨_, _, _, rfl⟩
  unfold WRPost at HW HR
  rw [hae] at HW HR
  clear hae
  go_enter Try.func11, Try.ntmps11
  go_wp2_with (at_builtin
               refine wpList_app rfl (.tmp 12) (.tmp 13) 40 rfl W.heap.size 24 i0 _ 2 16 Try.underlying40 hi hi0 hi1 hi2 rfl (by omega) (.slice none 0 0) 0 [] rfl (World.ownsRow_nil _ _ _ _) W.heap.size A n cap (flatR l) rfl hy3 (flatR_one l) (by simp only [maxLen]; omega) (by omega) (Nat.le_refl _) ?_
               intro v4 w4 ho4 hg4 _
               have hb4 : Below W.heap.size W w4 := (Below.refl _ _).grown hg4 (Nat.le_refl _) (by intro k hk; simp [Value.ownBlock] at hk)
               rw [List.nil_append] at ho4
               obtain ⟨A4, c4, rfl, hr4⟩ := Rd.of_own ho4
               have hq4 := RdRtts.of_rd hr4 hw
               rw [Nat.zero_add] at hq4
               clear ho4 hg4 hr4 hy3 hi hi0 hi1 hi2)
  refine (HW.out _ _ _ _ hq4).mono ?_
  rintro e w5 ⟨rfl, hb5⟩
  have hbw5 : Below W.heap.size W w5 := hb4.trans (hb5.mono hb4.size)
  have hq5 := (hq4.below hb5 (Nat.le_refl _)).mono hb5.size
  have hz5 := hbw5.size
  go_wp2_with fail
  have hbw5' : Below W.heap.size W (w5.alloc (.cells #[.float .f64 a, .float .f64 v] 24)) := hbw5.alloc hz5 _
  refine (HR.out _ hbw5').mono ?_
  rintro e w6 ⟨rfl, hb6⟩
  have hbw6 : Below W.heap.size W w6 := hbw5'.trans (hb6.mono hbw5'.size)
  have hx6 : w6.heap[w5.heap.size]? = some (.cells #[.float .f64 a, .float .f64 v] 24 (0, 0)) := by
    rw [hb6.block _ (by simp)]
    exact heap_alloc_new w5 _
  have hz56 : w5.heap.size < w6.heap.size := by have := hb6.size; simp at this; omega
  have hz46 : w4.heap.size ≤ w6.heap.size := by have := hb5.size; omega
  have hq6 : RdRtts w6 w6.heap.size A4 n c4 l := (hq5.below (((Below.refl _ _).alloc (Nat.le_refl _) _).trans (hb6.mono (by simp))) (Nat.le_refl _)).mono (by omega)
  obtain ⟨w8, hw8⟩ : ∃ w8, w6.alloc (.cells #[.float .f64 a, .float .f64 v] 24) = w8 := ⟨_, rfl⟩
  have hb68 : Below w6.heap.size w6 w8 := by rw [← hw8]; exact (Below.refl _ _).alloc (Nat.le_refl _) _
  have hz68 : w8.heap.size = w6.heap.size + 1 := by rw [← hw8]; simp
  have hbw8 : Below W.heap.size W w8 := hbw6.trans (hb68.mono hbw6.size)
  have hq8 : RdRtts w8 w6.heap.size A4 n c4 l := hq6.below hb68 (Nat.le_refl _)
  have hx8 : w8.heap[w5.heap.size]? = some (.cells #[.float .f64 a, .float .f64 v] 24 (0, 0)) := (hb68.block _ hz56).trans hx6
  have hy8 : w8.heap[w6.heap.size]? = some (.cells #[.float .f64 a, .float .f64 v] 24 (0, 0)) := by rw [← hw8]; exact heap_alloc_new w6 _
  have x0 : w8.cell? ⟨w5.heap.size, 0, none⟩ = some (.float .f64 a) := cell_of_row _ _ _ _ _ _ hx8
  have x1 : w8.cell? ⟨w5.heap.size, 1, none⟩ = some (.float .f64 v) := cell_of_row _ _ _ _ _ _ hx8
  have x2 : w8.cell? ⟨w6.heap.size, 0, none⟩ = some (.float .f64 a) := cell_of_row _ _ _ _ _ _ hy8
  have x3 : w8.cell? ⟨w6.heap.size, 1, none⟩ = some (.float .f64 v) := cell_of_row _ _ _ _ _ _ hy8
  have y0 : w6.cell? ⟨w5.heap.size, 0, none⟩ = some (.float .f64 a) := cell_of_row _ _ _ _ _ _ hx6
  have y1 : w6.cell? ⟨w5.heap.size, 1, none⟩ = some (.float .f64 v) := cell_of_row _ _ _ _ _ _ hx6
  have Hw8 := Lib.hid hw8
  clear hw8 hb5 hb6 hx6 hx8 hy8 hb4 hq4 hq5 hq6 hb68
  go_wp2_with fail
  rw [Hw8.out]
  refine (keepRtt_same a v _).mono ?_
  rintro e w9 ⟨rfl, hb9⟩
  have hbw9 : Below W.heap.size W w9 := hbw8.trans (hb9.mono hbw8.size)
  have hq9 : RdRtts w9 w9.heap.size A4 n c4 l := (hq8.below hb9 (by omega)).mono (by have := hb9.size; omega)
  clear x0 x1 x2 x3 y0 y1 hq8 hb9
  go_wp2_with fail
  go_loopg [8] n (fun g s8 wr => ∃ i : Nat, i + g = n ∧ s8 = .int .i64 i ∧ Below w9.heap.size w9 wr)
  case atStart => exact ⟨0, by omega, rfl, Below.refl _ _⟩
  case round =>
    obtain ⟨k, hig, rfl, hb⟩ := hrel
    have hin : k ≤ n := by omega
    have Hig := Lib.hid hig
    clear hig
    have hbw : Below W.heap.size W wr := hbw9.trans (hb.mono hbw9.size)
    by_cases hlt : k < n
    · obtain ⟨b1, off1, m1, v1, rfl, hbB, hm1, hv1, c1, c2, Hst⟩ := (hy.below hbw (Nat.le_refl _)).step hlt
      obtain ⟨b2, off2, m2, v2, rfl, hbB2, hm2, hv2, d1, d2, Hst2⟩ := (hq9.below hb (by omega)).step hlt
      obtain ⟨rfl, rfl⟩ : m1 = m2 ∧ v1 = v2 := by
        have h1 := Hst.out.1
        rw [Hst2.out.1] at h1
        injection h1 with h1
        injection h1 with h1 h2
        exact ⟨h1.symm, h2.symm⟩
      have hzr := hb.size
      have hzw := hbw.size
      have Hk : Hid (∀ w' : World, Below wr.heap.size wr w' → w'.cell? ⟨b1, off1 + k * 2, none⟩ = some (.float .f64 m1) ∧ w'.cell? ⟨b1, off1 + k * 2 + 1, none⟩ = some (.float .f64 v1) ∧ w'.cell? ⟨b2, off2 + k * 2, none⟩ = some (.float .f64 m1) ∧ w'.cell? ⟨b2, off2 + k * 2 + 1, none⟩ = some (.float .f64 v1)) := fun w' h =>
        ⟨(h.cell (p := ⟨b1, off1 + k * 2, none⟩) (by show b1 < _; omega)).trans c1, (h.cell (p := ⟨b1, off1 + k * 2 + 1, none⟩) (by show b1 < _; omega)).trans c2,
          (h.cell (p := ⟨b2, off2 + k * 2, none⟩) (by show b2 < _; omega)).trans d1, (h.cell (p := ⟨b2, off2 + k * 2 + 1, none⟩) (by show b2 < _; omega)).trans d2⟩
      clear c1 c2 d1 d2
      go_wp2_with fail
      go_region_held3 (fun w' => w'.cell? ⟨b1, off1 + k * 2, none⟩ = some (.float .f64 m1) ∧ w'.cell? ⟨b1, off1 + k * 2 + 1, none⟩ = some (.float .f64 v1) ∧ w'.cell? ⟨b2, off2 + k * 2, none⟩ = some (.float .f64 m1) ∧ w'.cell? ⟨b2, off2 + k * 2 + 1, none⟩ = some (.float .f64 v1))
        ((first | assumption | exact Hk.out _ (Below.drew (Below.refl _ _)) | exact Hk.out _ hb11'))
        ((first
          | (go_at_call 26
             refine (keepRtt_same _ _ _).mono ?_
             rintro e w11 ⟨rfl, hb11⟩
             have hb11' : Below wr.heap.size wr w11 := (Below.drew (Below.refl _ _)).trans hb11)))
      have hend : Hid (Below w9.heap.size w9 w11) := hb.trans (hb11'.mono hb.size)
      clear hb11 hb11'
      go_wp2_with fail
      go_roundg (gk - 1)
      case rel => exact ⟨k + 1, by have := Hig.out; omega, by go_num, hend.out⟩
      case measure => have := Hig.out; omega
    · go_wp2_with fail
      refine (rwakes_any _).mono ?_
      rintro e w10 ⟨rfl, hb10⟩
      go_wp2_with fail
      go_ret
      exact ⟨rfl, hbw.trans (hb10.mono hbw.size)⟩
end Go.Proofs.Ytebfaghgcecacaa
