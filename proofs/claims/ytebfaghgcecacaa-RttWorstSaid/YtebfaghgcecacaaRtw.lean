/-
  The worst of estimates: the walk of rtt.Worst.
-/
import Derived.Test.YtebfaghgcecacaaPex
import Derived.Test.YtebfaghgcecacaaRefnote
import Derived.Test.YtebfaghgcecacaaTimeout
import Derived.Lib.QuietBelow
namespace Go.Proofs.Ytebfaghgcecacaa
open Go.RowKit Go.Sort
set_option maxHeartbeats 400000 in
theorem Same_any (a b : Nat) (w : World) (ha : a < 18446744073709551616) (hb : b < 18446744073709551616) : Calls Try.prog 58 #[.float .f64 a, .float .f64 b] w fun e w' => e = .returned (.bool (sameB a b)) ∧ w = w' := by
  have hs := same_canon ha hb
  have h1 := call_bits (canon a)
  have h2 := call_bits (canon b)
  obtain ⟨c, hc⟩ : ∃ c, canon a = c := ⟨_, rfl⟩
  obtain ⟨d, hd⟩ : ∃ d, canon b = d := ⟨_, rfl⟩
  have HC : Hid (∀ w, Calls Try.prog 50 #[.float .f64 a] w fun e w' => e = .returned (.float .f64 c) ∧ w = w') := by rw [← hc]; exact fun w => Canon_any a w
  have HD : Hid (∀ w, Calls Try.prog 50 #[.float .f64 b] w fun e w' => e = .returned (.float .f64 d) ∧ w = w') := by rw [← hd]; exact fun w => Canon_any b w
  rw [hc] at h1 hs
  rw [hd] at h2 hs
  rw [hs]
  clear hs hc hd
  go_enter Try.func58, Try.ntmps58
  go_wp2_with (first | ((with_reducible refine (HC.out _).mono ?_); rintro e w1 ⟨rfl, rfl⟩) | ((with_reducible refine (HD.out _).mono ?_); rintro e w1 ⟨rfl, rfl⟩))
  go_ret
  refine ⟨ret_bool ?_, rfl⟩
  rw [Bool.eq_iff_iff]
  simp
  try omega
set_option maxHeartbeats 400000 in
theorem RefSame_any (a b : Nat) (w : World) (ha : a < 18446744073709551616) (hb : b < 18446744073709551616) : Calls Try.prog 59 #[.float .f64 a, .float .f64 b] w fun e w' => e = .returned (.bool (sameB a b)) ∧ w = w' := by
  go_enter Try.func59, Try.ntmps59
  go_wp2_with (refine (rank_any _ _ (by assumption)).mono ?_; rintro e w1 ⟨rfl, rfl⟩)
  go_ret
  refine ⟨ret_bool ?_, rfl⟩
  unfold sameB
  rw [Bool.eq_iff_iff]
  simp
  try omega
/-- Is p worse than w? -/
def betterR (w p : Nat × Nat) : Bool := !isNan p.1 && (isNan w.1 || lessB w.1 p.1 || sameB w.1 p.1 && lessB w.2 p.2)
def wrt (l : List (Nat × Nat)) : Nat × Nat := l.foldl (fun w p => if betterR w p = true then p else w) (9221120237041090561, 9221120237041090561)
theorem wrt_snoc (l : List (Nat × Nat)) (p : Nat × Nat) : wrt (l ++ [p]) = if betterR (wrt l) p = true then p else wrt l := by
  unfold wrt
  rw [List.foldl_append]
  rfl
theorem wrt_lt {l : List (Nat × Nat)} (h : ∀ p ∈ l, p.1 < 18446744073709551616 ∧ p.2 < 18446744073709551616) : (wrt l).1 < 18446744073709551616 ∧ (wrt l).2 < 18446744073709551616 := by
  have : ∀ (l : List (Nat × Nat)) (a : Nat × Nat), (a.1 < 18446744073709551616 ∧ a.2 < 18446744073709551616) → (∀ p ∈ l, p.1 < 18446744073709551616 ∧ p.2 < 18446744073709551616) →
      (l.foldl (fun w p => if betterR w p = true then p else w) a).1 < 18446744073709551616 ∧ (l.foldl (fun w p => if betterR w p = true then p else w) a).2 < 18446744073709551616 := by
    intro l
    induction l with
    | nil => intro a ha _; exact ha
    | cons p l ih =>
      intro a ha hl
      refine ih _ ?_ (fun q hq => hl q (List.mem_cons_of_mem _ hq))
      show (if betterR a p = true then p else a).1 < _ ∧ (if betterR a p = true then p else a).2 < _
      split
      · exact hl p List.mem_cons_self
      · exact ha
  exact this l _ ⟨by decide, by decide⟩ h
theorem results_rttc {fn : Func} {c t : Nat} (h : fn.results = #[.cell c 24, .tmp t]) (tmps : Array Value) (w : World) (g a b : Nat) (n : Int)
    (hp : tmps.getD c undef = .pointer (some ⟨g, 0, none⟩)) (h5 : tmps.getD t undef = .int .i64 n) (hg : w.heap[g]? = some (.cells #[.float .f64 a, .float .f64 b] 24 (0, 0))) :
    (results fn tmps).run Try.prog w = .ok (.tuple #[.agg #[.float .f64 a, .float .f64 b], .int .i64 n]) w := by
  have hl := run_loadVar_row (P := Try.prog) w g 24 24 #[.float .f64 a, .float .f64 b] (0, 0) _ hg Try.underlying24 rfl size2
  have hp' : tmps[c]?.getD undef = .pointer (some ⟨g, 0, none⟩) := by simpa using hp
  have h5' : tmps[t]?.getD undef = .int .i64 n := by simpa using h5
  simp [results, h, hp', h5', asAddr, hl]
theorem setRow_size_lt {w : World} {b : Nat} (g : Nat) (cs : Array Value) (h : b < w.heap.size) : b < (w.setRow g cs).heap.size := by
  simpa [World.setRow] using h
theorem setRow_off {w : World} {g k : Nat} {o : Option Obj} (h : w.heap[k]? = o) (hk : g ≠ k) (cs : Array Value) : (w.setRow g cs).heap[k]? = o := by
  rw [← h]
  unfold World.setRow
  simp [Array.getElem?_modify, hk]
def WRPost (l : List (Nat × Nat)) (w : World) (e : Ending) (w' : World) : Prop :=
  e = .returned (if allR l = true then .tuple #[.agg #[.float .f64 (wrt l).1, .float .f64 (wrt l).2], .int .i64 0] else .tuple #[.agg #[.float .f64 0, .float .f64 0], .int .i64 1]) ∧ Below w.heap.size w w'
set_option maxRecDepth 100000 in
set_option maxHeartbeats 3200000 in
theorem Worst_rtt (A : Option Addr) (n cap B : Nat) (l : List (Nat × Nat)) (w : World) (hy : RdRtts w B A n cap l) (hB : B ≤ w.heap.size) :
    Calls Try.prog 34 #[.slice A n cap] w (WRPost l w) := by
  have hn := hy.n_le
  have hst := run_store_float
  have HP0 : Hid (∀ w', allR l = false → Below w.heap.size w w' → WRPost l w (.returned (.tuple #[.agg #[.float .f64 0, .float .f64 0], .int .i64 1])) w') := by
    intro w' h1 h2
    unfold WRPost
    rw [h1]
    exact ⟨rfl, h2⟩
  have HP1 : Hid (∀ w', allR l = true → Below w.heap.size w w' → WRPost l w (.returned (.tuple #[.agg #[.float .f64 (wrt l).1, .float .f64 (wrt l).2], .int .i64 0])) w') := by
    intro w' h1 h2
    unfold WRPost
    rw [h1]
    exact ⟨rfl, h2⟩
  go_enter Try.func34, Try.ntmps34
  go_wp2_with fail
  go_loopg [5, 6, 12] n (fun g _ _ s12 wr => ∃ i : Nat, i + g = n ∧ s12 = .int .i64 i ∧ allR (l.take i) = true ∧ Below (w.heap.size + 1) (w.alloc (.cells #[.float .f64 0, .float .f64 0] 24)) wr)
  case atStart => exact ⟨0, by omega, rfl, rfl, Below.refl _ _⟩
  case round =>
    obtain ⟨i, hig, rfl, hall, hb⟩ := hrel
    have hin : i ≤ n := by omega
    have Hig := Lib.hid hig
    have Hall := Lib.hid hall
    clear hig hall
    have hbw : Below w.heap.size w wr := ((Below.refl _ _).alloc (Nat.le_refl _) _).trans (hb.mono (by omega))
    have hwz : w.heap.size + 1 ≤ wr.heap.size := by have := hb.size; simpa using this
    have hx0 : wr.heap[w.heap.size]? = some (.cells #[.float .f64 0, .float .f64 0] 24 (0, 0)) := by
      rw [hb.block _ (by omega)]
      exact heap_alloc_new w _
    have Hx0 := Lib.hid hx0
    clear hx0
    by_cases hlt : i < n
    · obtain ⟨b, off, m, v, rfl, hbB, hm, hv, c1, c2, Hst⟩ := (hy.below hbw hB).step hlt
      have Hck : Hid (∀ W, Calls Try.prog 28 #[.agg #[.float .f64 m, .float .f64 v]] W fun e w' => e = .returned (.int .i64 (if chk m v = true then 0 else 1)) ∧ Below W.heap.size W w') := fun W => Check_any m v W hm hv
      cases hc : chk m v
      · rw [hc] at Hck
        simp only [Bool.false_eq_true, if_false] at Hck
        have Hno : Hid (allR l = false) := allR_take (k := i + 1) (by rw [Hst.out.2, allR_snoc, hc, Bool.and_false])
        clear hc
        go_wp2_with fail
        refine (Hck.out _).mono ?_
        rintro e w4 ⟨rfl, hb4⟩
        have hx4 : w4.heap[w.heap.size]? = some (.cells #[.float .f64 0, .float .f64 0] 24 (0, 0)) := by
          rw [hb4.block _ (by simp; omega), Below.heap_alloc _ _ _ (by omega)]
          exact Hx0.out
        have Hx4 := Lib.hid hx4
        clear hx4
        go_wp2_with (refine wpList_store_row rfl 24 (.tmp 2) (.tmp 20) rfl w.heap.size #[.float .f64 0, .float .f64 0] rfl rfl 24 _ Hx4.out size2 rfl (rtt_one _ _) ?_)
        refine bodyPost_ret (v := .tuple #[.agg #[.float .f64 0, .float .f64 0], .int .i64 1]) (results_rttc Try.results34 _ _ w.heap.size 0 0 1 rfl rfl (setRow_heap _ _ _ _ _ _ Hx4.out)) rfl ?_
        exact HP0.out _ Hno.out (below_setRow (hbw.trans ((((Below.refl _ _).alloc (Nat.le_refl _) _).trans (hb4.mono (by simp))).mono (by omega))) (by omega) _)
      · rw [hc] at Hck
        simp only [if_true] at Hck
        have Hok : Hid (allR (l.take (i + 1)) = true) := by unfold Hid; rw [Hst.out.2, allR_snoc, hc, Hall.out]; rfl
        clear hc
        go_wp2_with fail
        refine (Hck.out _).mono ?_
        rintro e w4 ⟨rfl, hb4⟩
        go_wp2_with fail
        go_roundg (gk - 1)
        case rel => exact ⟨i + 1, by have := Hig.out; omega, by go_num, Hok.out, hb.trans ((((Below.refl _ _).alloc (Nat.le_refl _) _).trans (hb4.mono (by simp))).mono (by omega))⟩
        case measure => have := Hig.out; omega
    · have Hall2 : Hid (allR l = true) := by
        have := Hall.out
        rwa [List.take_of_length_le (by have := hy.1; omega)] at this
      go_wp2_with fail
      refine (New_any _).mono ?_
      rintro e w5 ⟨rfl, hb5⟩
      have hbw5 : Below w.heap.size w w5 := hbw.trans (hb5.mono hbw.size)
      have hz5 : w.heap.size + 1 ≤ w5.heap.size := by have := hb5.size; omega
      have Hx5 : Hid (w5.heap[w.heap.size]? = some (.cells #[.float .f64 0, .float .f64 0] 24 (0, 0))) := (hb5.block _ (by omega)).trans Hx0.out
      clear hb hbw hwz Hx0 hb5
      go_wp2_with fail
      obtain ⟨wo, rfl⟩ : ∃ wo : World, wo = wr := ⟨_, rfl⟩
      go_loopg [9, 26] n (fun g _ s26 wr => ∃ k : Nat, k + g = n ∧ s26 = .int .i64 k ∧ Below w.heap.size w wr ∧ w5.heap.size < wr.heap.size ∧ wr.heap[w.heap.size]? = some (.cells #[.float .f64 0, .float .f64 0] 24 (0, 0)) ∧
        wr.heap[w5.heap.size]? = some (.cells #[.float .f64 (wrt (l.take k)).1, .float .f64 (wrt (l.take k)).2] 24 (0, 0)))
      case atStart => exact ⟨0, by omega, rfl, hbw5.alloc (by omega) _, by simp, by rw [Below.heap_alloc _ _ _ (by omega)]; exact Hx5.out, heap_alloc_new w5 _⟩
      case round =>
        obtain ⟨k, hkg, rfl, hbk, hzk, hxk, hok⟩ := hrel
        have hkn : k ≤ n := by omega
        have Hkg := Lib.hid hkg
        have Hxk := Lib.hid hxk
        clear hkg hxk
        by_cases hk : k < n
        · obtain ⟨b, off, m, v, rfl, hbB, hm, hv, c1, c2, Hst⟩ := (hy.below hbk hB).step hk
          have HW : Hid (wrt (l.take (k + 1)) = if betterR (wrt (l.take k)) (m, v) = true then (m, v) else wrt (l.take k)) := by unfold Hid; rw [Hst.out.2, wrt_snoc]
          have hwl := wrt_lt (l := l.take k) (fun p hp => by
            obtain ⟨i, hi⟩ := List.getElem?_of_mem (List.mem_of_mem_take hp)
            exact hy.wf i p hi)
          obtain ⟨wm, wv, hwv⟩ : ∃ wm wv, wrt (l.take k) = (wm, wv) := ⟨_, _, rfl⟩
          rw [hwv] at HW hwl hok
          unfold betterR at HW
          dsimp only at HW hwl hok
          clear hwv
          have HK1 : Hid (∀ w, Calls Try.prog 52 #[.agg #[.float .f64 m, .float .f64 v]] w fun e w' => e = .returned (.bool (!isNan m)) ∧ Below w.heap.size w w') := fun w => known_any m v w
          have HK2 : Hid (∀ w, Calls Try.prog 52 #[.agg #[.float .f64 wm, .float .f64 wv]] w fun e w' => e = .returned (.bool (!isNan wm)) ∧ Below w.heap.size w w') := fun w => known_any wm wv w
          have HL1 : Hid (∀ w, Calls Try.prog 39 #[.float .f64 wm, .float .f64 m] w fun e w' => e = .returned (.bool (lessB wm m)) ∧ Below w.heap.size w w') := fun w => (Less_any wm m w hwl.1 hm).mono fun e w' ⟨h1, h2⟩ => ⟨h1, by rw [← h2]; exact Below.refl _ _⟩
          have HL2 : Hid (∀ w, Calls Try.prog 39 #[.float .f64 wv, .float .f64 v] w fun e w' => e = .returned (.bool (lessB wv v)) ∧ Below w.heap.size w w') := fun w => (Less_any wv v w hwl.2 hv).mono fun e w' ⟨h1, h2⟩ => ⟨h1, by rw [← h2]; exact Below.refl _ _⟩
          have HS : Hid (∀ w, Calls Try.prog 58 #[.float .f64 wm, .float .f64 m] w fun e w' => e = .returned (.bool (sameB wm m)) ∧ Below w.heap.size w w') := fun w => (Same_any wm m w hwl.1 hm).mono fun e w' ⟨h1, h2⟩ => ⟨h1, by rw [← h2]; exact Below.refl _ _⟩
          have y0 : wr.cell? ⟨w5.heap.size, 0, none⟩ = some (.float .f64 wm) := cell_of_row _ _ _ _ _ _ hok
          have y1 : wr.cell? ⟨w5.heap.size, 1, none⟩ = some (.float .f64 wv) := cell_of_row _ _ _ _ _ _ hok
          have hbz : b < wr.heap.size := by omega
          obtain ⟨w6, hw6⟩ : ∃ w6, wr.alloc (.cells #[.float .f64 m, .float .f64 v] 24) = w6 := ⟨_, rfl⟩
          have hb6 : Below wr.heap.size wr w6 := by rw [← hw6]; exact (Below.refl _ _).alloc (Nat.le_refl _) _
          have Hok6 : Hid (w6.heap[w5.heap.size]? = some (.cells #[.float .f64 wm, .float .f64 wv] 24 (0, 0))) := (hb6.block _ hzk).trans hok
          have Hx6 : Hid (w6.heap[w.heap.size]? = some (.cells #[.float .f64 0, .float .f64 0] 24 (0, 0))) := (hb6.block _ (by omega)).trans Hxk.out
          have hr6 : w6.heap[wr.heap.size]? = some (.cells #[.float .f64 m, .float .f64 v] 24 (0, 0)) := by rw [← hw6]; exact heap_alloc_new wr _
          have Hf : Hid (∀ w' : World, Below w6.heap.size w6 w' → w'.cell? ⟨w5.heap.size, 0, none⟩ = some (.float .f64 wm) ∧ w'.cell? ⟨w5.heap.size, 1, none⟩ = some (.float .f64 wv) ∧ w'.cell? ⟨wr.heap.size, 0, none⟩ = some (.float .f64 m) ∧ w'.cell? ⟨wr.heap.size, 1, none⟩ = some (.float .f64 v) ∧ w'.frozen? ⟨w5.heap.size, 0, none⟩ = false ∧ w'.frozen? ⟨w5.heap.size, 1, none⟩ = false) := fun w' h => by
            have h1 := (h.block w5.heap.size (by rw [← hw6]; simp; omega)).trans Hok6.out
            have h2 := (h.block wr.heap.size (by rw [← hw6]; simp)).trans hr6
            exact ⟨cell_of_row _ _ _ _ _ _ h1, cell_of_row _ _ _ _ _ _ h1, cell_of_row _ _ _ _ _ _ h2, cell_of_row _ _ _ _ _ _ h2, frozen_of_row _ _ _ _ _ h1, frozen_of_row _ _ _ _ _ h1⟩
          have x0 : w6.cell? ⟨w5.heap.size, 0, none⟩ = some (.float .f64 wm) := cell_of_row _ _ _ _ _ _ Hok6.out
          have x1 : w6.cell? ⟨w5.heap.size, 1, none⟩ = some (.float .f64 wv) := cell_of_row _ _ _ _ _ _ Hok6.out
          have x2 : w6.cell? ⟨wr.heap.size, 0, none⟩ = some (.float .f64 m) := cell_of_row _ _ _ _ _ _ hr6
          have x3 : w6.cell? ⟨wr.heap.size, 1, none⟩ = some (.float .f64 v) := cell_of_row _ _ _ _ _ _ hr6
          have x4 : w6.frozen? ⟨w5.heap.size, 0, none⟩ = false := frozen_of_row _ _ _ _ _ Hok6.out
          have x5 : w6.frozen? ⟨w5.heap.size, 1, none⟩ = false := frozen_of_row _ _ _ _ _ Hok6.out
          have hz6 : w6.heap.size = wr.heap.size + 1 := by rw [← hw6]; simp
          have Hg : Hid (∀ w' : World, Below w6.heap.size w6 w' → w'.heap[w5.heap.size]? = some (.cells #[.float .f64 wm, .float .f64 wv] 24 (0, 0)) ∧ w'.heap[w.heap.size]? = some (.cells #[.float .f64 0, .float .f64 0] 24 (0, 0)) ∧ Below w.heap.size w w' ∧ w5.heap.size < w'.heap.size) := fun w' h =>
            ⟨(h.block _ (by omega)).trans Hok6.out, (h.block _ (by omega)).trans Hx6.out, hbk.trans ((hb6.trans (h.mono (by omega))).mono hbk.size), by have := h.size; omega⟩
          have Hw6 := Lib.hid hw6
          have Hr6 := Lib.hid hr6
          clear hw6 hok hr6
          cases n1 : isNan m
          case' false => cases n2 : isNan wm
          case' false.false => cases l1 : lessB wm m
          case' false.false.false => cases s1 : sameB wm m
          case' false.false.false.true => cases l2 : lessB wv v
          all_goals
            rw [n1] at HK1 HW
            try rw [n2] at HK2 HW
            try rw [l1] at HL1 HW
            try rw [s1] at HS HW
            try rw [l2] at HL2 HW
            simp only [Bool.not_true, Bool.not_false, Bool.false_and, Bool.true_and, Bool.true_or, Bool.or_true, Bool.or_false, Bool.false_eq_true, if_true, if_false] at HW HK1 HK2
            go_wp2_with fail
            rw [Hw6.out]
            clear c1 c2 y0 y1
            have hbc : Below w6.heap.size w6 w6 := Below.refl _ _
            go_wp2_with (first
              | (go_at_call 52
                 (with_reducible refine (HK1.out _).mono ?_)
                 rintro e w7 ⟨rfl, hb7⟩
                 have hbn : Below w6.heap.size w6 w7 := hbc.trans (hb7.mono hbc.size)
                 clear hbc hb7 x0 x1 x2 x3 x4 x5
                 have hbc := hbn
                 clear hbn
                 obtain ⟨x0, x1, x2, x3, x4, x5⟩ := Hf.out _ hbc)
              | (go_at_call 52
                 (with_reducible refine (HK2.out _).mono ?_)
                 rintro e w7 ⟨rfl, hb7⟩
                 have hbn : Below w6.heap.size w6 w7 := hbc.trans (hb7.mono hbc.size)
                 clear hbc hb7 x0 x1 x2 x3 x4 x5
                 have hbc := hbn
                 clear hbn
                 obtain ⟨x0, x1, x2, x3, x4, x5⟩ := Hf.out _ hbc)
              | (go_at_call 39
                 (with_reducible refine (HL1.out _).mono ?_)
                 rintro e w7 ⟨rfl, hb7⟩
                 have hbn : Below w6.heap.size w6 w7 := hbc.trans (hb7.mono hbc.size)
                 clear hbc hb7 x0 x1 x2 x3 x4 x5
                 have hbc := hbn
                 clear hbn
                 obtain ⟨x0, x1, x2, x3, x4, x5⟩ := Hf.out _ hbc)
              | (go_at_call 39
                 (with_reducible refine (HL2.out _).mono ?_)
                 rintro e w7 ⟨rfl, hb7⟩
                 have hbn : Below w6.heap.size w6 w7 := hbc.trans (hb7.mono hbc.size)
                 clear hbc hb7 x0 x1 x2 x3 x4 x5
                 have hbc := hbn
                 clear hbn
                 obtain ⟨x0, x1, x2, x3, x4, x5⟩ := Hf.out _ hbc)
              | (go_at_call 58
                 (with_reducible refine (HS.out _).mono ?_)
                 rintro e w7 ⟨rfl, hb7⟩
                 have hbn : Below w6.heap.size w6 w7 := hbc.trans (hb7.mono hbc.size)
                 clear hbc hb7 x0 x1 x2 x3 x4 x5
                 have hbc := hbn
                 clear hbn
                 obtain ⟨x0, x1, x2, x3, x4, x5⟩ := Hf.out _ hbc))
            go_roundg (gk - 1)
            case rel =>
              obtain ⟨hg1, hg2, hg3, hg4⟩ := Hg.out _ hbc
              have hz55 : w.heap.size ≤ w5.heap.size := by omega
              refine ⟨k + 1, by have := Hkg.out; omega, by go_num, ?_, ?_, ?_, ?_⟩
              all_goals first
                | with_reducible exact hg3
                | exact (hg3.setCell hz55 _).setCell hz55 _
                | with_reducible exact hg4
                | with_reducible exact hg2
                | (simp only [World.setCell, Array.size_modify]; with_reducible exact hg4)
                | (rw [heap_setCell_other _ _ _ _ (by show w.heap.size ≠ w5.heap.size; omega), heap_setCell_other _ _ _ _ (by show w.heap.size ≠ w5.heap.size; omega)]; with_reducible exact hg2)
                | (rw [HW.out]; with_reducible exact hg1)
                | (rw [HW.out, heap_setCell_same _ _ _ _ _ _ (heap_setCell_same _ _ _ _ _ _ hg1)]; rfl)
            case measure => have := Hkg.out; omega
        · have hkn' : l.take k = l := List.take_of_length_le (by have := hy.1; omega)
          rw [hkn'] at hok
          have Hok := Lib.hid hok
          have y0 : wr.cell? ⟨w5.heap.size, 0, none⟩ = some (.float .f64 (wrt l).1) := cell_of_row _ _ _ _ _ _ hok
          have y1 : wr.cell? ⟨w5.heap.size, 1, none⟩ = some (.float .f64 (wrt l).2) := cell_of_row _ _ _ _ _ _ hok
          clear hok hkn'
          go_wp2_with (refine wpList_store_row rfl 24 (.tmp 2) (.tmp 60) rfl w.heap.size #[.float .f64 (wrt l).1, .float .f64 (wrt l).2] rfl rfl 24 _ Hxk.out size2 rfl (rtt_one _ _) ?_)
          refine bodyPost_ret (v := .tuple #[.agg #[.float .f64 (wrt l).1, .float .f64 (wrt l).2], .int .i64 0]) (results_rttc Try.results34 _ _ w.heap.size _ _ 0 rfl rfl (setRow_heap _ _ _ _ _ _ Hxk.out)) rfl ?_
          exact HP1.out _ Hall2.out (below_setRow hbk (by omega) _)
end Go.Proofs.Ytebfaghgcecacaa
