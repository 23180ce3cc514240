/-
  The walk of NumMeans.
-/
import Derived.Test.YtdcjbodkcldpbaaDoorMean
import Derived.Test.YtdcjbodkcldpbaaDoorNexact
import Derived.Deep.RegionWith
namespace Go.Proofs.YtdcjbodkcldpbaaDoor
open Go.RowKit
set_option maxRecDepth 100000
theorem info_f64 : (Tryd.prog.info? 22).map (fun i => (i.zero, i.size, i.bytes)) = some (some (.float .f64 0), 1, 8) := by kernel_rfl
theorem fl_one (l : List Nat) : ∀ u ∈ l.map (Value.float .f64), u.oneCell' = true := by
  intro u hu
  obtain ⟨x, _, rfl⟩ := List.mem_map.1 hu
  rfl
set_option maxHeartbeats 6400000 in
theorem nmeans_walk (A : Option Addr) (n cap : Nat) (l : List Nat) (W : World) (hy : Rd W W.heap.size 1 A n cap (l.map (Value.float .f64))) (hT : TzAt W) :
    Calls Tryd.prog 6 #[.slice A n cap] W fun e w' => e = .returned (.bool true) ∧ Below W.heap.size W w' := by
  have HT := Lib.hid hT
  clear hT
  have hmax : n ≤ 9223372036854775807 := by
    have := hy.2.1
    have := hy.2.2.1
    unfold maxLen at this
    omega
  by_cases hlong : 1000 < n
  · go_enter Tryd.func6, Tryd.ntmps6
    go_wp2_with fail
    go_ret
    exact ⟨rfl, Below.refl _ _⟩
  obtain ⟨i0, hi, hi0, hi1, hi2⟩ := info_parts info_f64
  go_enter Tryd.func6, Tryd.ntmps6
  go_wp2_with (at_builtin
               refine wpList_app rfl (.tmp 8) (.tmp 9) 30 rfl W.heap.size 22 i0 _ 1 8 Tryd.underlying30 hi hi0 hi1 hi2 rfl (by omega) (.slice none 0 0) 0 [] rfl (World.ownsRow_nil _ _ _ _) W.heap.size A n cap (l.map (Value.float .f64)) rfl hy (fl_one l) (by simp only [maxLen]; omega) (by omega) (Nat.le_refl _) ?_
               intro v4 w4 ho4 hg4 _
               have hb4 : Below W.heap.size W w4 := (Below.refl _ _).grown hg4 (Nat.le_refl _) (by intro k hk; simp [Value.ownBlock] at hk)
               rw [List.nil_append] at ho4
               obtain ⟨A4, c4, rfl, hr4⟩ := Rd.of_own ho4
               rw [Nat.zero_add] at hr4
               clear ho4 hg4 hi hi0 hi1 hi2)
  have hy4 := hy.below hb4 (Nat.le_refl _)
  have HM : Hid (∀ k, Calls Tryd.prog 18 #[.slice A4 n c4] (w4.drewN k) (Qt (w4.drewN k) (.float .f64 (meanV l)))) := fun k => Mean_any A4 n c4 _ l _ (hr4.drewN k)
  have HR : Hid (∀ k, Calls Tryd.prog 19 #[.slice A n cap] (w4.drewN k) (Qt (w4.drewN k) (.float .f64 (meanV l)))) := fun k => RefMean_any A n cap _ l _ (hy4.drewN k)
  unfold Qt at HM HR
  refine (HM.out 0).mono ?_
  rintro e w5 ⟨rfl, k5, rfl⟩
  go_wp2_with fail
  refine (HR.out k5).mono ?_
  rintro e w6 ⟨rfl, k6, rfl⟩
  go_wp2_with (refine (bits_same _ _).mono ?_; rintro e w7 ⟨rfl, rfl⟩)
  have hbd : Below W.heap.size W (w4.drewN (k5 + k6)) := below_drewN hb4 _
  clear HM HR
  go_loopg [4] n (fun g s4 wr => ∃ i : Nat, i + g = n ∧ s4 = .int .i64 i ∧ Below w4.heap.size w4 wr)
  case atStart => exact ⟨0, by omega, rfl, below_drewN (Below.refl _ _) _⟩
  case round =>
    obtain ⟨i, hig, rfl, hbr⟩ := hrel
    have hbw : Below W.heap.size W wr := hb4.trans (hbr.mono hb4.size)
    have hin : i ≤ n := by omega
    have Hig := Lib.hid hig
    clear hig
    by_cases hlt : i < n
    · obtain ⟨b1, off1, x1, rfl, hbB, d1, Hst⟩ := floats_at (hy4.below hbr hb4.size) hlt
      obtain ⟨b2, off2, x2, rfl, hbB2, d2, Hst2⟩ := floats_at (hr4.below hbr (Nat.le_refl _)) hlt
      obtain rfl : x1 = x2 := by
        have h1 := Hst.out.1
        rw [Hst2.out.1] at h1
        injection h1 with h1
        exact h1.symm
      go_wp2_with fail
      have HB : Hid (∀ w, Calls Tryd.prog 17 #[.float .f64 x1, .float .f64 x1] w fun e w' => e = .returned (.bool true) ∧ w' = w) := fun w => (bits_same x1 w).mono fun e w' ⟨h1, h2⟩ => ⟨h1, h2.symm⟩
      go_quiet ((go_at_call 17; exact Calls.quiet_of_same (HB.out _)))
      go_wp2_with fail
      go_roundg (gk - 1)
      case rel => exact ⟨i + 1, by have := Hig.out; omega, by go_num, below_drewN hbr _⟩
      case measure => have := Hig.out; omega
    · go_wp2_with (refine (wakes_any _ (by exact (HT.out.below hbw))).mono ?_; rintro e w9 ⟨rfl, hb9⟩)
      go_ret
      exact ⟨rfl, hbw.trans (hb9.mono hbw.size)⟩
end Go.Proofs.YtdcjbodkcldpbaaDoor
