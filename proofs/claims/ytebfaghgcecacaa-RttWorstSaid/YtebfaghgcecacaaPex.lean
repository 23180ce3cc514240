/-
  The walk of PulseExact.
-/
import Derived.Test.YtebfaghgcecacaaRefq
namespace Go.Proofs.Ytebfaghgcecacaa
open Go.RowKit
/-- The cells of estimates. -/
def flatR : List (Nat × Nat) → List Value
  | [] => []
  | p :: l => .float .f64 p.1 :: .float .f64 p.2 :: flatR l
theorem flatR_len (l : List (Nat × Nat)) : (flatR l).length = l.length * 2 := by
  induction l with
  | nil => rfl
  | cons p l ih => simp [flatR, ih]; omega
theorem flatR_get (l : List (Nat × Nat)) (i : Nat) : (flatR l)[i * 2]? = l[i]?.map (fun p => Value.float .f64 p.1) ∧ (flatR l)[i * 2 + 1]? = l[i]?.map (fun p => Value.float .f64 p.2) := by
  induction l generalizing i with
  | nil => simp [flatR]
  | cons p l ih =>
    cases i with
    | zero => simp [flatR]
    | succ i =>
      have e1 : (i + 1) * 2 = i * 2 + 1 + 1 := by omega
      rw [e1]
      simp only [flatR, List.getElem?_cons_succ]
      exact ih i
theorem flatR_one (l : List (Nat × Nat)) : ∀ u ∈ flatR l, u.oneCell' = true := by
  induction l with
  | nil => simp [flatR]
  | cons p l ih =>
    intro u hu
    simp only [flatR, List.mem_cons] at hu
    rcases hu with rfl | rfl | hu
    · rfl
    · rfl
    · exact ih u hu
theorem RdRtts.rd {w : World} {B n cap : Nat} {A : Option Addr} {l : List (Nat × Nat)} (h : RdRtts w B A n cap l) : Rd w B 2 A n cap (flatR l) := by
  obtain ⟨h1, h2, h3, h4⟩ := h
  refine ⟨by rw [flatR_len, h1], h2, h3, fun hn => ?_⟩
  obtain ⟨b, off, e, hb, hc⟩ := h4 hn
  refine ⟨b, off, e, hb, fun j u hu => ?_⟩
  have hj : j < l.length * 2 := by
    have := (List.getElem?_eq_some_iff.1 hu).1
    rwa [flatR_len] at this
  obtain ⟨i, hi⟩ : ∃ i, j = i * 2 ∨ j = i * 2 + 1 := ⟨j / 2, by omega⟩
  have hl : l[i]? = some (l[i]'(by omega)) := by simp
  obtain ⟨_, _, k3, k4⟩ := hc i _ hl
  rcases hi with rfl | rfl
  · rw [(flatR_get l i).1, hl] at hu
    simp at hu
    rw [k3, ← hu]
  · rw [(flatR_get l i).2, hl] at hu
    simp at hu
    rw [← Nat.add_assoc, k4, ← hu]
def WfR (l : List (Nat × Nat)) : Prop := ∀ (i : Nat) p, l[i]? = some p → p.1 < 18446744073709551616 ∧ p.2 < 18446744073709551616
theorem RdRtts.wf {w : World} {B n cap : Nat} {A : Option Addr} {l : List (Nat × Nat)} (h : RdRtts w B A n cap l) : WfR l := fun i p hp => by
  obtain ⟨h1, h2, h3, h4⟩ := h
  have hi := (List.getElem?_eq_some_iff.1 hp).1
  obtain ⟨b, off, e, hb, hc⟩ := h4 (by omega)
  exact ⟨(hc i p hp).1, (hc i p hp).2.1⟩
theorem RdRtts.of_rd {w : World} {B n cap : Nat} {A : Option Addr} {l : List (Nat × Nat)} (h : Rd w B 2 A n cap (flatR l)) (hw : WfR l) : RdRtts w B A n cap l := by
  obtain ⟨h1, h2, h3, h4⟩ := h
  rw [flatR_len] at h1
  refine ⟨by omega, h2, h3, fun hn => ?_⟩
  obtain ⟨b, off, e, hb, hc⟩ := h4 hn
  refine ⟨b, off, e, hb, fun i p hp => ⟨(hw i p hp).1, (hw i p hp).2, hc _ _ ?_, ?_⟩⟩
  · rw [(flatR_get l i).1, hp]; rfl
  · rw [Nat.add_assoc]
    refine hc _ _ ?_
    rw [(flatR_get l i).2, hp]; rfl
theorem info_rtt : (Try.prog.info? 24).map (fun i => (i.zero, i.size, i.bytes)) = some (some (.agg #[.float .f64 0, .float .f64 0]), 2, 16) := by kernel_rfl
set_option maxHeartbeats 400000 in
theorem Float_same (x : Nat) (w : World) : Calls Try.prog 49 #[.float .f64 x, .float .f64 x] w fun e w' => e = .returned (.bool true) ∧ w = w' := by
  have hb := call_bits x
  have hne := cmp_ne_self x
  cases h : isNan x
  all_goals
    rw [h] at hne
    clear h
    go_enter Try.func49, Try.ntmps49
    go_wp2_with fail
    go_ret
    exact ⟨rfl, rfl⟩
set_option maxHeartbeats 400000 in
theorem keepRtt_same (m v : Nat) (w : World) : Calls Try.prog 26 #[.agg #[.float .f64 m, .float .f64 v], .agg #[.float .f64 m, .float .f64 v]] w fun e w' => e = .returned (.bool true) ∧ Below w.heap.size w w' := by
  go_enter Try.func26, Try.ntmps26
  go_wp2_with (refine (Float_same _ _).mono ?_; rintro e w1 ⟨rfl, rfl⟩)
  go_ret
  exact ⟨rfl, ((Below.refl _ _).alloc (Nat.le_refl _) _).alloc (by simp) _⟩
theorem size7i : (Try.prog.info? 31).map (·.size) = some 7 := by kernel_rfl
theorem RdRtts.mono {w : World} {B B' n cap : Nat} {A : Option Addr} {l : List (Nat × Nat)} (h : RdRtts w B A n cap l) (hB : B ≤ B') : RdRtts w B' A n cap l := by
  obtain ⟨h1, h2, h3, h4⟩ := h
  refine ⟨h1, h2, h3, fun hn => ?_⟩
  obtain ⟨b, off, e, hb, hc⟩ := h4 hn
  exact ⟨b, off, e, by omega, hc⟩
set_option maxRecDepth 100000 in
set_option maxHeartbeats 6400000 in
theorem exact_walk (S : Nat → Int) (hS : ∀ i, -9223372036854775808 ≤ S i ∧ S i ≤ 9223372036854775807) (A : Option Addr) (n cap : Nat) (l : List (Nat × Nat)) (x : Int) (u : Nat) (s : Int) (m v : Nat) (W : World) (hy : RdRtts W W.heap.size A n cap l)
    (hu : u < 18446744073709551616) (hs : -9223372036854775808 ≤ s ∧ s ≤ 9223372036854775807) (hm : m < 18446744073709551616) (hv : v < 18446744073709551616) :
    Calls Try.prog 6 #[.agg (ints7 S), .slice A n cap, .int .i64 x, .float .f64 u, .int .i64 s, .agg #[.float .f64 m, .float .f64 v]] W fun e w' => e = .returned (.bool true) ∧ Below W.heap.size W w' := by
  have hn := hy.n_le
  by_cases h100 : 100 < n
  · unfold ints7
    go_enter Try.func6, Try.ntmps6
    go_wp2_with fail
    go_ret
    exact ⟨rfl, ((Below.refl _ _).alloc (Nat.le_refl _) _).alloc (by simp) _⟩
  have HD : Hid (∀ w, Calls Try.prog 12 #[.int .i64 s, .agg #[.float .f64 m, .float .f64 v]] w (DoubtPost s m v w)) := fun w => Doubt_any s m v w hs hm hv
  unfold DoubtPost at HD
  have HR : Hid (∀ w, Calls Try.prog 21 #[.agg #[.float .f64 m, .float .f64 v]] w fun e w' => e = .returned (.bool (chk m v)) ∧ Below w.heap.size w w') := fun w => RefRtt_any m v w hm hv
  have HB := call_bits (doubt s m v)
  have HB0 := call_bits 0
  have HRD : Hid (chk m v = true → ∀ w, Calls Try.prog 23 #[.int .i64 s, .agg #[.float .f64 m, .float .f64 v]] w fun e w' => e = .returned (.float .f64 (doubt s m v)) ∧ Below w.heap.size w w') := fun hc w => RefDoubt_any s m v w hs hm hv hc
  obtain ⟨d, hd⟩ : ∃ d, doubt s m v = d := ⟨_, rfl⟩
  rw [hd] at HD HB HRD
  clear hd
  have hst := run_store_float
  have hrow2 : ∀ w' : World, w'.heap[W.heap.size + 1]? = some (.cells #[.float .f64 m, .float .f64 v] 24 (0, 0)) → w'.cell? ⟨W.heap.size + 1, 0, none⟩ = some (.float .f64 m) ∧ w'.cell? ⟨W.heap.size + 1, 1, none⟩ = some (.float .f64 v) := fun w' h =>
    ⟨cell_of_row _ _ _ _ _ _ h, cell_of_row _ _ _ _ _ _ h⟩
  have Hrow2 := Lib.hid hrow2
  clear hrow2
  rcases hc : chk m v
  case' true => have HRD3 := Lib.hid (HRD.out hc)
  all_goals
    rw [hc] at HD HR
    clear HRD hc
    simp only [if_true, Bool.false_eq_true, if_false] at HD
    unfold ints7
    go_enter Try.func6, Try.ntmps6
    go_wp2_with fail
    refine (HD.out _).mono ?_
    rintro e w1 ⟨rfl, hb1⟩
    have hs1 : w1.heap[W.heap.size]? = some (.cells (ints7 S) 31 (0, 0)) := by
      rw [hb1.block _ (by simp; omega), Below.heap_alloc _ _ _ (by simp)]
      exact heap_alloc_new W _
    have hr1 : w1.heap[W.heap.size + 1]? = some (.cells #[.float .f64 m, .float .f64 v] 24 (0, 0)) := by
      rw [hb1.block _ (by simp)]
      exact heap_alloc2_new W _ _
    have hbw1 : Below W.heap.size W w1 := (((Below.refl _ _).alloc (Nat.le_refl _) _).alloc (by simp) _).trans (hb1.mono (by simp; omega))
    have hz1 : W.heap.size + 2 ≤ w1.heap.size := by have := hb1.size; simp at this; omega
    have Hs1 := Lib.hid hs1
    have Hr1 := Lib.hid hr1
    clear hs1 hr1 hb1
    obtain ⟨y0, y1⟩ := Hrow2.out _ Hr1.out
    go_wp2_with fail
    refine (HR.out _).mono ?_
    rintro e w2 ⟨rfl, hb2⟩
    have hs2 : Hid (w2.heap[W.heap.size]? = some (.cells (ints7 S) 31 (0, 0))) := (hb2.block _ (by omega)).trans Hs1.out
    have hr2 : Hid (w2.heap[W.heap.size + 1]? = some (.cells #[.float .f64 m, .float .f64 v] 24 (0, 0))) := (hb2.block _ (by omega)).trans Hr1.out
    have hbw2 : Below W.heap.size W w2 := hbw1.trans (hb2.mono (by omega))
    have hz2 : W.heap.size + 2 ≤ w2.heap.size := by have := hb2.size; omega
    clear y0 y1 Hs1 Hr1 hb2 hbw1 hz1
  all_goals first
    | (have HRD4 := HRD3
       clear HRD4
       go_wp2_with fail
       go_region_held3 (fun w' => w'.cell? ⟨W.heap.size + 1, 0, none⟩ = some (.float .f64 m) ∧ w'.cell? ⟨W.heap.size + 1, 1, none⟩ = some (.float .f64 v))
         ((first | assumption | exact Hrow2.out _ hr2.out | exact Hrow2.out _ ((hb3'.block _ (by omega)).trans hr2.out)))
         ((first
           | (go_at_call 23
              refine (HRD3.out _).mono ?_
              rintro e w3 ⟨rfl, hb3⟩
              have hb3' : Below w2.heap.size w2 w3 := (Below.drew (Below.refl _ _)).trans hb3)))
       have hs3 : Hid (w3.heap[W.heap.size]? = some (.cells (ints7 S) 31 (0, 0))) := (hb3'.block _ (by omega)).trans hs2.out
       have hbw3 : Below W.heap.size W w3 := hbw2.trans (hb3'.mono (by omega))
       have hz3 : W.heap.size + 2 ≤ w3.heap.size := by have := hb3'.size; omega)
    | (obtain ⟨w3, hw3⟩ : ∃ w3, w3 = w2 := ⟨_, rfl⟩
       have hs3 := hs2
       have hbw3 := hbw2
       have hz3 := hz2
       rw [← hw3] at hs3 hbw3 hz3 ⊢
       clear hw3)
  all_goals
    obtain ⟨i0, hi, hi0, hi1, hi2⟩ := info_parts info_rtt
    have hw := hy.wf
    have hy3 := (hy.below hbw3 (Nat.le_refl _)).rd
    have HSi : Hid (∀ w A n cap, RdRtts w w.heap.size A n cap l → Calls Try.prog 15 #[.agg (ints7 S), .slice A n cap, .int .i64 x, .float .f64 u] w (SilentPost S l x u w)) := fun w A n cap h => Silent_any S hS A n cap _ l x u w h (Nat.le_refl _) hu
    have HRi : Hid (∀ w, Below W.heap.size W w → Calls Try.prog 24 #[.agg (ints7 S), .slice A n cap, .int .i64 x, .float .f64 u] w (SilentPost S l x u w)) := fun w hb => RefSilent_any S hS A n cap _ l x u w (hy.below hb (Nat.le_refl _)) hb.size hu
    have HWi : Hid (∀ w A n cap, RdRtts w w.heap.size A n cap l → Calls Try.prog 20 #[.agg (ints7 S), .slice A n cap, .int .i64 x] w (WorstPost S l x w)) := fun w A n cap h => Worst_any S hS A n cap _ l x w h (Nat.le_refl _)
    have HVi : Hid (∀ w, Below W.heap.size W w → Calls Try.prog 25 #[.agg (ints7 S), .slice A n cap, .int .i64 x] w (WorstPost S l x w)) := fun w hb => RefWorse_any S hS A n cap _ l x w (hy.below hb (Nat.le_refl _)) hb.size
    obtain ⟨a, e1, hae⟩ : ∃ a e1 : Int, (if allR l = true then Value.tuple #[.int .i64 (sil (Dd S l) x u 7 : Int), .int .i64 0] else .tuple #[.int .i64 0, .int .i64 1]) = Value.tuple #[.int .i64 a, .int .i64 e1] := by
      split
      · exact ⟨_, _, rfl⟩
      · exact ⟨_, _, rfl⟩
    obtain ⟨b, f1, g1, hbf⟩ : ∃ (b : Int) (f1 : Nat) (g1 : Int), (if allR l = true then Value.tuple #[.int .i64 (wst (Dd S l) x 7).1, .float .f64 (wst (Dd S l) x 7).2, .int .i64 0] else .tuple #[.int .i64 0, .float .f64 0, .int .i64 1]) = Value.tuple #[.int .i64 b, .float .f64 f1, .int .i64 g1] := by
      split
      · exact ⟨_, _, _, rfl⟩
      · exact ⟨_, _, _, rfl⟩
    unfold SilentPost at HSi HRi
    unfold WorstPost at HWi HVi
    rw [hae] at HSi HRi
    rw [hbf] at HWi HVi
    clear hae hbf
    have hbits := call_bits f1
    go_wp2_with (first
      | (at_builtin
         refine wpList_app rfl (.tmp 56) (.tmp 57) 40 rfl w3.heap.size 24 i0 _ 2 16 Try.underlying40 hi hi0 hi1 hi2 rfl (by omega) (.slice none 0 0) 0 [] rfl (World.ownsRow_nil _ _ _ _) W.heap.size A n cap (flatR l) rfl hy3 (flatR_one l) (by simp only [maxLen]; omega) (by omega) (Nat.le_refl _) ?_
         intro v4 w4 ho4 hg4 _
         have hb4 : Below w3.heap.size w3 w4 := (Below.refl _ _).grown hg4 (Nat.le_refl _) (by intro k hk; simp [Value.ownBlock] at hk)
         have hs4 : Hid (w4.heap[W.heap.size]? = some (.cells (ints7 S) 31 (0, 0))) := (hb4.block _ (by omega)).trans hs3.out
         have hbw4 : Below W.heap.size W w4 := hbw3.trans (hb4.mono (by omega))
         have hz4 : W.heap.size + 2 ≤ w4.heap.size := by have := hb4.size; omega
         rw [List.nil_append] at ho4
         obtain ⟨A4, c4, rfl, hr4⟩ := Rd.of_own ho4
         have hq4 := RdRtts.of_rd hr4 hw
         rw [Nat.zero_add] at hq4
         clear ho4 hg4 hr4 hy3 hi hi0 hi1 hi2)
      | (refine wpList_load_row rfl 31 (.tmp 6) rfl W.heap.size rfl 31 (ints7 S) (0, 0) _ hs4.out Try.underlying31 rfl size7i ?_))
    refine (HSi.out _ _ _ _ hq4).mono ?_
    rintro e w5 ⟨rfl, hb5⟩
    have hs5 : Hid (w5.heap[W.heap.size]? = some (.cells (ints7 S) 31 (0, 0))) := (hb5.block _ (by omega)).trans hs4.out
    have hbw5 : Below W.heap.size W w5 := hbw4.trans (hb5.mono (by omega))
    have hz5 : W.heap.size + 2 ≤ w5.heap.size := by have := hb5.size; omega
    have hq5 := (hq4.below hb5 (Nat.le_refl _))
    have hz45 := hb5.size
    go_wp2_with (refine wpList_load_row rfl 31 (.tmp 6) rfl W.heap.size rfl 31 (ints7 S) (0, 0) _ hs5.out Try.underlying31 rfl size7i ?_)
    refine (HRi.out _ hbw5).mono ?_
    rintro e w6 ⟨rfl, hb6⟩
    have hs6 : Hid (w6.heap[W.heap.size]? = some (.cells (ints7 S) 31 (0, 0))) := (hb6.block _ (by omega)).trans hs5.out
    have hbw6 : Below W.heap.size W w6 := hbw5.trans (hb6.mono (by omega))
    have hz6 : W.heap.size + 2 ≤ w6.heap.size := by have := hb6.size; omega
    have hq6 := (hq5.below hb6 (by omega))
    have hz56 := hb6.size
    go_wp2_with (refine wpList_load_row rfl 31 (.tmp 6) rfl W.heap.size rfl 31 (ints7 S) (0, 0) _ hs6.out Try.underlying31 rfl size7i ?_)
    refine (HWi.out _ _ _ _ (hq6.mono (by omega))).mono ?_
    rintro e w7 ⟨rfl, hb7⟩
    have hs7 : Hid (w7.heap[W.heap.size]? = some (.cells (ints7 S) 31 (0, 0))) := (hb7.block _ (by omega)).trans hs6.out
    have hbw7 : Below W.heap.size W w7 := hbw6.trans (hb7.mono (by omega))
    have hz7 : W.heap.size + 2 ≤ w7.heap.size := by have := hb7.size; omega
    have hq7 := (hq6.below hb7 (by omega))
    have hz67 := hb7.size
    go_wp2_with (refine wpList_load_row rfl 31 (.tmp 6) rfl W.heap.size rfl 31 (ints7 S) (0, 0) _ hs7.out Try.underlying31 rfl size7i ?_)
    refine (HVi.out _ hbw7).mono ?_
    rintro e w8 ⟨rfl, hb8⟩
    have hbw8 : Below W.heap.size W w8 := hbw7.trans (hb8.mono (by omega))
    have hq8 := (hq7.below hb8 (by omega))
    have hz78 := hb8.size
    have hz48 : w4.heap.size ≤ w8.heap.size := by omega
    clear hb5 hb6 hb7 hb8 hq7 hq6 hq5 hs3 hbw3 hz3 hbw4 hz4 hs5 hs6 hs7 hbw5 hbw6 hbw7
    go_wp2_with fail
    go_loopg [25] n (fun g s25 wr => ∃ i : Nat, i + g = n ∧ s25 = .int .i64 i ∧ Below w8.heap.size w8 wr)
    case atStart => exact ⟨0, by omega, rfl, Below.refl _ _⟩
    case round =>
      obtain ⟨k, hig, rfl, hb⟩ := hrel
      have hin : k ≤ n := by omega
      have Hig := Lib.hid hig
      clear hig
      have hbw : Below W.heap.size W wr := hbw8.trans (hb.mono hbw8.size)
      by_cases hlt : k < n
      · obtain ⟨b1, off1, m1, v1, rfl, hbB, hm1, hv1, c1, c2, Hst⟩ := (hy.below hbw (Nat.le_refl _)).step hlt
        obtain ⟨b2, off2, m2, v2, rfl, hbB2, hm2, hv2, d1, d2, Hst2⟩ := (hq8.below hb (by omega)).step hlt
        obtain ⟨rfl, rfl⟩ : m1 = m2 ∧ v1 = v2 := by
          have h1 := Hst.out.1
          rw [Hst2.out.1] at h1
          injection h1 with h1
          injection h1 with h1 h2
          exact ⟨h1.symm, h2.symm⟩
        have hzr := hb.size
        have hzw := hbw.size
        have Hk : Hid (∀ w' : World, Below wr.heap.size wr w' → w'.cell? ⟨b1, off1 + k * 2, none⟩ = some (.float .f64 m1) ∧ w'.cell? ⟨b1, off1 + k * 2 + 1, none⟩ = some (.float .f64 v1) ∧ w'.cell? ⟨b2, off2 + k * 2, none⟩ = some (.float .f64 m1) ∧ w'.cell? ⟨b2, off2 + k * 2 + 1, none⟩ = some (.float .f64 v1)) := fun w' h =>
          ⟨(h.cell (p := ⟨b1, off1 + k * 2, none⟩) (by show b1 < _; omega)).trans c1, (h.cell (p := ⟨b1, off1 + k * 2 + 1, none⟩) (by show b1 < _; omega)).trans c2,
            (h.cell (p := ⟨b2, off2 + k * 2, none⟩) (by show b2 < _; omega)).trans d1, (h.cell (p := ⟨b2, off2 + k * 2 + 1, none⟩) (by show b2 < _; omega)).trans d2⟩
        clear c1 c2 d1 d2
        go_wp2_with fail
        go_region_held3 (fun w' => w'.cell? ⟨b1, off1 + k * 2, none⟩ = some (.float .f64 m1) ∧ w'.cell? ⟨b1, off1 + k * 2 + 1, none⟩ = some (.float .f64 v1) ∧ w'.cell? ⟨b2, off2 + k * 2, none⟩ = some (.float .f64 m1) ∧ w'.cell? ⟨b2, off2 + k * 2 + 1, none⟩ = some (.float .f64 v1))
          ((first | assumption | exact Hk.out _ (Below.drew (Below.refl _ _)) | exact Hk.out _ hb9'))
          ((first
            | (go_at_call 26
               refine (keepRtt_same _ _ _).mono ?_
               rintro e w9 ⟨rfl, hb9⟩
               have hb9' : Below wr.heap.size wr w9 := (Below.drew (Below.refl _ _)).trans hb9)))
        have hend : Hid (Below w8.heap.size w8 w9) := hb.trans (hb9'.mono hb.size)
        clear hb9 hb9'
        go_wp2_with fail
        go_roundg (gk - 1)
        case rel => exact ⟨k + 1, by have := Hig.out; omega, by go_num, hend.out⟩
        case measure => have := Hig.out; omega
      · go_wp2_with fail
        refine (wakes_any _).mono ?_
        rintro e w10 ⟨rfl, hb10⟩
        go_wp2_with fail
        go_ret
        exact ⟨rfl, hbw.trans (hb10.mono hbw.size)⟩
end Go.Proofs.Ytebfaghgcecacaa
