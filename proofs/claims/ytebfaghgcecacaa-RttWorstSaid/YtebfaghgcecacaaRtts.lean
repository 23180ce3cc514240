/-
  Slices of estimates that came in; the walk of pulse.doubts.
-/
import Derived.Test.YtebfaghgcecacaaGrows
import Derived.Deep.RegionHeld3
import Derived.BigQuiet
import Derived.Deep.QuietTactic
namespace Go.Proofs.Ytebfaghgcecacaa
open Go.RowKit
/-- A slice of estimates that is read. -/
def RdRtts (w : World) (B : Nat) (A : Option Addr) (n cap : Nat) (l : List (Nat × Nat)) : Prop :=
  l.length = n ∧ n ≤ cap ∧ cap ≤ maxLen ∧ (0 < n → ∃ b off, A = some ⟨b, off, none⟩ ∧ b < B ∧ ∀ (i : Nat) p, l[i]? = some p →
    p.1 < 18446744073709551616 ∧ p.2 < 18446744073709551616 ∧ w.cell? ⟨b, off + i * 2, none⟩ = some (.float .f64 p.1) ∧ w.cell? ⟨b, off + i * 2 + 1, none⟩ = some (.float .f64 p.2))
theorem RdRtts.nil (w : World) (B : Nat) : RdRtts w B none 0 0 [] := ⟨rfl, Nat.le_refl _, Nat.zero_le _, fun h => by omega⟩
theorem RdRtts.below {w w' : World} {B C n cap : Nat} {A : Option Addr} {l : List (Nat × Nat)} (h : RdRtts w B A n cap l) (hb : Below C w w') (hB : B ≤ C) : RdRtts w' B A n cap l := by
  obtain ⟨h1, h2, h3, h4⟩ := h
  refine ⟨h1, h2, h3, fun hn => ?_⟩
  obtain ⟨b, off, e, hb', hc⟩ := h4 hn
  refine ⟨b, off, e, hb', fun i p hi => ?_⟩
  obtain ⟨k1, k2, k3, k4⟩ := hc i p hi
  have kk : ∀ x, w'.cell? ⟨b, x, none⟩ = w.cell? ⟨b, x, none⟩ := fun x => hb.cell (by show b < C; omega)
  exact ⟨k1, k2, (kk _).trans k3, (kk _).trans k4⟩
/-- The k-th estimate, in a round. -/
theorem RdRtts.step {w : World} {B n cap : Nat} {A : Option Addr} {l : List (Nat × Nat)} (h : RdRtts w B A n cap l) {k : Nat} (hk : k < n) :
    ∃ b off m v, A = some ⟨b, off, none⟩ ∧ b < B ∧ m < 18446744073709551616 ∧ v < 18446744073709551616 ∧ w.cell? ⟨b, off + k * 2, none⟩ = some (.float .f64 m) ∧ w.cell? ⟨b, off + k * 2 + 1, none⟩ = some (.float .f64 v) ∧
      Hid (l[k]? = some (m, v) ∧ l.take (k + 1) = l.take k ++ [(m, v)]) := by
  obtain ⟨h1, h2, h3, h4⟩ := h
  obtain ⟨b, off, e, hb', hc⟩ := h4 (by omega)
  have hl : l[k]? = some (l[k]'(by omega)) := by simp
  obtain ⟨k1, k2, k3, k4⟩ := hc k _ hl
  exact ⟨b, off, _, _, e, hb', k1, k2, k3, k4, hl, List.take_succ_eq_append_getElem (by omega)⟩
theorem RdRtts.n_le {w : World} {B n cap : Nat} {A : Option Addr} {l : List (Nat × Nat)} (h : RdRtts w B A n cap l) : n ≤ 9223372036854775807 := by
  have := h.2.1
  have := h.2.2.1
  unfold maxLen at this
  omega
/-- What is known of a node. -/
def est (l : List (Nat × Nat)) (i : Nat) : Nat × Nat := l.getD i (9221120237041090561, 9221120237041090561)
def allR (l : List (Nat × Nat)) : Bool := l.all fun p => chk p.1 p.2
def Dd (S : Nat → Int) (l : List (Nat × Nat)) (i : Nat) : Nat := doubt (S i) (est l i).1 (est l i).2
/-- Seven numbers, seven floats, by value. -/
def ints7 (S : Nat → Int) : Array Value := #[.int .i64 (S 0), .int .i64 (S 1), .int .i64 (S 2), .int .i64 (S 3), .int .i64 (S 4), .int .i64 (S 5), .int .i64 (S 6)]
def outA (D : Nat → Nat) (i : Nat) : Array Value :=
  #[.float .f64 (if 0 < i then D 0 else 0), .float .f64 (if 1 < i then D 1 else 0), .float .f64 (if 2 < i then D 2 else 0), .float .f64 (if 3 < i then D 3 else 0), .float .f64 (if 4 < i then D 4 else 0), .float .f64 (if 5 < i then D 5 else 0), .float .f64 (if 6 < i then D 6 else 0)]
theorem outA_set (D : Nat → Nat) {i : Nat} (h : i < 7) : (outA D i).setIfInBounds i (.float .f64 (D i)) = outA D (i + 1) := by
  have : i = 0 ∨ i = 1 ∨ i = 2 ∨ i = 3 ∨ i = 4 ∨ i = 5 ∨ i = 6 := by omega
  rcases this with rfl | rfl | rfl | rfl | rfl | rfl | rfl <;> rfl
theorem outA_get (D : Nat → Nat) {i : Nat} (h : i < 7) : (outA D i)[i]? = some (.float .f64 0) := by
  have : i = 0 ∨ i = 1 ∨ i = 2 ∨ i = 3 ∨ i = 4 ∨ i = 5 ∨ i = 6 := by omega
  rcases this with rfl | rfl | rfl | rfl | rfl | rfl | rfl <;> rfl
theorem ints7_get (S : Nat → Int) {i : Nat} (h : i < 7) : (ints7 S)[i]? = some (.int .i64 (S i)) := by
  have : i = 0 ∨ i = 1 ∨ i = 2 ∨ i = 3 ∨ i = 4 ∨ i = 5 ∨ i = 6 := by omega
  rcases this with rfl | rfl | rfl | rfl | rfl | rfl | rfl <;> rfl
set_option maxHeartbeats 400000 in
theorem NaN_any (w : World) : Calls Try.prog 17 #[] w fun e w' => e = .returned (.float .f64 9221120237041090561) ∧ w = w' := by
  have hc := call_frombits
  go_enter Try.func17, Try.ntmps17
  go_wp2_with fail
  go_ret
  exact ⟨rfl, rfl⟩
set_option maxHeartbeats 400000 in
theorem numnan_any (w : World) : Calls Try.prog 62 #[] w fun e w' => e = .returned (.float .f64 9221120237041090561) ∧ w = w' := by
  have hc := call_frombits
  go_enter Try.func62, Try.ntmps62
  go_wp2_with fail
  go_ret
  exact ⟨rfl, rfl⟩
set_option maxHeartbeats 400000 in
theorem Canon_any (x : Nat) (w : World) : Calls Try.prog 50 #[.float .f64 x] w fun e w' => e = .returned (.float .f64 (canon x)) ∧ w = w' := by
  unfold canon
  cases h : isNan x
  all_goals
    go_enter Try.func50, Try.ntmps50
    go_wp2_with (first | (go_at_call 36; refine (IsNaN_any _ _).mono ?_; rintro e w1 ⟨rfl, rfl⟩) | (go_at_call 62; refine (numnan_any _).mono ?_; rintro e w1 ⟨rfl, rfl⟩))
    go_ret
    exact ⟨rfl, rfl⟩
set_option maxHeartbeats 400000 in
theorem New_any (w : World) : Calls Try.prog 27 #[] w fun e w' => e = .returned (.agg #[.float .f64 9221120237041090561, .float .f64 9221120237041090561]) ∧ Below w.heap.size w w' := by
  have hst := run_store_float
  have hC : ∀ w, Calls Try.prog 50 #[.float .f64 9221120237041090561] w fun e w' => e = .returned (.float .f64 9221120237041090561) ∧ w = w' := fun w => Canon_any _ w
  have HC := Lib.hid hC
  clear hC
  go_enter Try.func27, Try.ntmps27
  go_wp2_with (first | (go_at_call 17; refine (NaN_any _).mono ?_; rintro e w2 ⟨rfl, rfl⟩) | (go_at_call 50; refine (HC.out _).mono ?_; rintro e w2 ⟨rfl, rfl⟩))
  exact bodyPost_ret (v := .agg #[.float .f64 9221120237041090561, .float .f64 9221120237041090561]) (by simp [results, Try.results27, go_sem]) rfl ⟨rfl, (Below.refl _ _).alloc (Nat.le_refl _) _⟩
def DoubtsPost (S : Nat → Int) (l : List (Nat × Nat)) (w : World) (e : Ending) (w' : World) : Prop :=
  e = .returned (if allR l = true then .tuple #[.agg (outA (Dd S l) 7), .int .i64 0] else .tuple #[.agg (outA (Dd S l) 0), .int .i64 1]) ∧ Below w.heap.size w w'
theorem allR_snoc (l : List (Nat × Nat)) (m v : Nat) : allR (l ++ [(m, v)]) = (allR l && chk m v) := by simp [allR]
theorem allR_take {l : List (Nat × Nat)} {k : Nat} (h : allR (l.take k) = false) : allR l = false := by
  cases hl : allR l
  · rfl
  · rw [← h]
    symm
    unfold allR at *
    rw [List.all_eq_true] at *
    exact fun x hx => hl x (List.mem_of_mem_take hx)
theorem size7 : (Try.prog.info? 62).map (·.size) = some 7 := by kernel_rfl
theorem outA_one (D : Nat → Nat) (i : Nat) : (outA D i).all (·.oneCell') = true := by simp [outA, Value.oneCell']
set_option maxRecDepth 100000 in
set_option maxHeartbeats 3200000 in
theorem doubts_any (S : Nat → Int) (hS : ∀ i, -9223372036854775808 ≤ S i ∧ S i ≤ 9223372036854775807) (A : Option Addr) (n cap B : Nat) (l : List (Nat × Nat)) (w : World) (hy : RdRtts w B A n cap l) (hB : B ≤ w.heap.size) :
    Calls Try.prog 38 #[.agg (ints7 S), .slice A n cap] w (DoubtsPost S l w) := by
  have hn := hy.n_le
  have hst := run_store_float
  have HP0 : Hid (∀ w', allR l = false → Below w.heap.size w w' → DoubtsPost S l w (.returned (.tuple #[.agg (outA (Dd S l) 0), .int .i64 1])) w') := by
    intro w' h1 h2
    unfold DoubtsPost
    rw [h1]
    exact ⟨rfl, h2⟩
  have HP1 : Hid (∀ w', allR l = true → Below w.heap.size w w' → DoubtsPost S l w (.returned (.tuple #[.agg (outA (Dd S l) 7), .int .i64 0])) w') := by
    intro w' h1 h2
    unfold DoubtsPost
    rw [h1]
    exact ⟨rfl, h2⟩
  unfold ints7
  go_enter Try.func38, Try.ntmps38
  go_wp2_with fail
  obtain ⟨w3, hw3⟩ : ∃ w3, ((w.alloc (.cells (ints7 S) 31)).alloc (.cells (outA (Dd S l) 0) 62)).alloc (.cells (outA (Dd S l) 0) 62) = w3 := ⟨_, rfl⟩
  have hs3 : w3.heap[w.heap.size]? = some (.cells (ints7 S) 31 (0, 0)) := by
    rw [← hw3, Below.heap_alloc _ _ _ (by simp; omega), Below.heap_alloc _ _ _ (by simp)]
    exact heap_alloc_new w _
  have hq3 : w3.heap[w.heap.size + 1]? = some (.cells (outA (Dd S l) 0) 62 (0, 0)) := by
    rw [← hw3, Below.heap_alloc _ _ _ (by simp)]
    have := heap_alloc_new (w.alloc (.cells (ints7 S) 31)) (.cells (outA (Dd S l) 0) 62)
    simpa using this
  have ho3 : w3.heap[w.heap.size + 1 + 1]? = some (.cells (outA (Dd S l) 0) 62 (0, 0)) := by
    rw [← hw3]
    have := heap_alloc_new ((w.alloc (.cells (ints7 S) 31)).alloc (.cells (outA (Dd S l) 0) 62)) (.cells (outA (Dd S l) 0) 62)
    simpa using this
  have hz3 : w3.heap.size = w.heap.size + 3 := by rw [← hw3]; simp
  have hb3 : Below w.heap.size w w3 := by
    rw [← hw3]
    exact (((Below.refl _ _).alloc (Nat.le_refl _) _).alloc (by simp) _).alloc (by simp; omega) _
  have Hs3 := Lib.hid hs3
  have Hq3 := Lib.hid hq3
  have Ho3 := Lib.hid ho3
  have Hz3 := Lib.hid hz3
  have Hw3 := Lib.hid hw3
  clear hs3 hq3 ho3 hz3 hw3
  go_loopg [8, 9, 14] n (fun g _ _ s14 wr => ∃ i : Nat, i + g = n ∧ s14 = .int .i64 i ∧ allR (l.take i) = true ∧ Below w3.heap.size w3 wr)
  case atStart => exact ⟨0, by omega, rfl, rfl, by rw [← Hw3.out]; exact Below.refl _ _⟩
  case round =>
    obtain ⟨i, hig, rfl, hall, hb⟩ := hrel
    have hin : i ≤ n := by omega
    have Hig := Lib.hid hig
    have Hall := Lib.hid hall
    clear hig hall
    have hbw : Below w.heap.size w wr := hb3.trans (hb.mono (by have := Hz3.out; omega))
    have hwz : w.heap.size + 3 ≤ wr.heap.size := by have := hb.size; have := Hz3.out; omega
    by_cases hlt : i < n
    · obtain ⟨b, off, m, v, rfl, hbB, hm, hv, c1, c2, Hst⟩ := (hy.below hbw hB).step hlt
      have hq4 : wr.heap[w.heap.size + 1]? = some (.cells (outA (Dd S l) 0) 62 (0, 0)) := (hb.block _ (by have := Hz3.out; omega)).trans Hq3.out
      have ho4 : wr.heap[w.heap.size + 1 + 1]? = some (.cells (outA (Dd S l) 0) 62 (0, 0)) := (hb.block _ (by have := Hz3.out; omega)).trans Ho3.out
      have Hck : Hid (∀ W, Calls Try.prog 28 #[.agg #[.float .f64 m, .float .f64 v]] W fun e w' => e = .returned (.int .i64 (if chk m v = true then 0 else 1)) ∧ Below W.heap.size W w') := fun W => Check_any m v W hm hv
      cases hc : chk m v
      · rw [hc] at Hck
        simp only [Bool.false_eq_true, if_false] at Hck
        have Hno : Hid (allR l = false) := allR_take (k := i + 1) (by rw [Hst.out.2, allR_snoc, hc, Bool.and_false])
        clear hc
        go_wp2_with fail
        refine (Hck.out _).mono ?_
        rintro e w4 ⟨rfl, hb4⟩
        have hs4 : wr.heap.size + 1 ≤ w4.heap.size := by have := hb4.size; simp at this; omega
        have hq5 : w4.heap[w.heap.size + 1]? = some (.cells (outA (Dd S l) 0) 62 (0, 0)) := by
          rw [hb4.block _ (by simp; omega), Below.heap_alloc _ _ _ (by omega)]
          exact hq4
        have ho5 : w4.heap[w.heap.size + 1 + 1]? = some (.cells (outA (Dd S l) 0) 62 (0, 0)) := by
          rw [hb4.block _ (by simp; omega), Below.heap_alloc _ _ _ (by omega)]
          exact ho4
        have Hq5 := Lib.hid hq5
        have Ho5 := Lib.hid ho5
        clear hq4 ho4 hq5 ho5
        go_wp2_with (first
          | (refine wpList_load_row rfl 62 (.tmp 6) rfl (w.heap.size + 1 + 1) rfl 62 (outA (Dd S l) 0) (0, 0) _ Ho5.out Try.underlying62 rfl size7 ?_)
          | (refine wpList_store_row rfl 62 (.tmp 4) (.tmp 22) rfl (w.heap.size + 1) (outA (Dd S l) 0) rfl rfl 62 (outA (Dd S l) 0) Hq5.out size7 rfl (outA_one _ _) ?_))
        have hl := run_loadVar_row (P := Try.prog) (w4.setRow (w.heap.size + 1) (outA (Dd S l) 0)) (w.heap.size + 1) 62 62 (outA (Dd S l) 0) (0, 0) _ (setRow_heap _ _ _ _ _ _ Hq5.out) Try.underlying62 rfl size7
        exact bodyPost_ret (v := .tuple #[.agg (outA (Dd S l) 0), .int .i64 1]) (by simp [results, Try.results38, asAddr, hl]) rfl
          (HP0.out _ Hno.out (below_setRow (hbw.trans (((Below.refl _ _).alloc (Nat.le_refl _) _).trans (hb4.mono (by simp)) |>.mono (by omega))) (by omega) _))
      · rw [hc] at Hck
        simp only [if_true] at Hck
        have Hok : Hid (allR (l.take (i + 1)) = true) := by unfold Hid; rw [Hst.out.2, allR_snoc, hc, Hall.out]; rfl
        clear hc hq4 ho4
        go_wp2_with fail
        refine (Hck.out _).mono ?_
        rintro e w4 ⟨rfl, hb4⟩
        go_wp2_with fail
        go_roundg (gk - 1)
        case rel => exact ⟨i + 1, by have := Hig.out; omega, by go_num, Hok.out, hb.trans ((((Below.refl _ _).alloc (Nat.le_refl _) _).trans (hb4.mono (by simp))).mono hb.size)⟩
        case measure => have := Hig.out; omega
    · have Hall2 : Hid (allR l = true) := by
        have := Hall.out
        rwa [List.take_of_length_le (by have := hy.1; omega)] at this
      have hs4 : wr.heap[w.heap.size]? = some (.cells (ints7 S) 31 (0, 0)) := (hb.block _ (by have := Hz3.out; omega)).trans Hs3.out
      have hq4 : wr.heap[w.heap.size + 1]? = some (.cells (outA (Dd S l) 0) 62 (0, 0)) := (hb.block _ (by have := Hz3.out; omega)).trans Hq3.out
      have ho4 : wr.heap[w.heap.size + 1 + 1]? = some (.cells (outA (Dd S l) 0) 62 (0, 0)) := (hb.block _ (by have := Hz3.out; omega)).trans Ho3.out
      have Hs4 := Lib.hid hs4
      have Hq4 := Lib.hid hq4
      have Ho4 := Lib.hid ho4
      clear hs4 hq4 ho4
      go_wp2_with fail
      obtain ⟨wo, rfl⟩ : ∃ wo : World, wo = wr := ⟨_, rfl⟩
      go_loopg [10, 11, 25] 7 (fun g _ _ s25 wr => ∃ i : Nat, i + g = 7 ∧ s25 = .int .i64 i ∧ Below w.heap.size w wr ∧ w.heap.size + 3 ≤ wr.heap.size ∧ wr.heap[w.heap.size]? = some (.cells (ints7 S) 31 (0, 0)) ∧
        wr.heap[w.heap.size + 1]? = some (.cells (outA (Dd S l) 0) 62 (0, 0)) ∧ wr.heap[w.heap.size + 1 + 1]? = some (.cells (outA (Dd S l) i) 62 (0, 0)))
      case atStart => exact ⟨0, by omega, rfl, hbw, hwz, Hs4.out, Hq4.out, Ho4.out⟩
      case round =>
        obtain ⟨k, hkg, rfl, hbk, hzk, hsk, hqk, hok⟩ := hrel
        have hk7 : k ≤ 7 := by omega
        have Hkg := Lib.hid hkg
        have Hsk := Lib.hid hsk
        have Hqk := Lib.hid hqk
        have Hok := Lib.hid hok
        clear hkg hsk hqk hok
        by_cases hk : k < 7
        · have hSk := hS k
          have Hck : Hid (∀ W, Calls Try.prog 12 #[.int .i64 (S k), .agg #[.float .f64 (est l k).1, .float .f64 (est l k).2]] W fun e w' => e = .returned (.tuple #[.float .f64 (Dd S l k), .int .i64 0]) ∧ Below W.heap.size W w') := fun W => by
            have he : (est l k).1 < 18446744073709551616 ∧ (est l k).2 < 18446744073709551616 ∧ chk (est l k).1 (est l k).2 = true := by
              by_cases hkn : k < n
              · obtain ⟨b, off, m, v, rfl, hbB, hm, hv, c1, c2, Hst⟩ := hy.step hkn
                have e1 : est l k = (m, v) := by unfold est; rw [List.getD_eq_getElem?_getD, Hst.out.1]; rfl
                rw [e1]
                refine ⟨hm, hv, ?_⟩
                have := Hall2.out
                unfold allR at this
                exact (List.all_eq_true.1 this) (m, v) (List.mem_of_getElem? Hst.out.1)
              · have e1 : est l k = (9221120237041090561, 9221120237041090561) := by unfold est; rw [List.getD_eq_getElem?_getD, List.getElem?_eq_none (by have := hy.1; omega)]; rfl
                rw [e1]
                exact ⟨by omega, by omega, by decide⟩
            refine (Doubt_any (S k) _ _ W (hS k) he.1 he.2.1).mono fun e w' ⟨h1, h2⟩ => ?_
            rw [if_pos he.2.2] at h1
            exact ⟨h1, h2⟩
          have ho0 : wr.cell? ⟨w.heap.size + 1 + 1, k, none⟩ = some (.float .f64 0) := by rw [cell_of_row _ _ _ _ _ _ Hok.out]; exact outA_get _ hk
          have hs0 : wr.cell? ⟨w.heap.size, k, none⟩ = some (.int .i64 (S k)) := by rw [cell_of_row _ _ _ _ _ _ Hsk.out]; exact ints7_get _ hk
          have hf0 : wr.frozen? ⟨w.heap.size + 1 + 1, k, none⟩ = false := frozen_of_row _ _ _ _ _ Hok.out
          have Ho0 := Lib.hid ho0
          have Hs0 := Lib.hid hs0
          have Hf0 := Lib.hid hf0
          clear ho0 hs0 hf0
          rcases Decidable.em (k < n) with hkn | hkn
          case' inl =>
            obtain ⟨b, off, m, v, rfl, hbB, hm, hv, c1, c2, Hst⟩ := hy.step hkn
            have e1 : est l k = (m, v) := by unfold est; rw [List.getD_eq_getElem?_getD, Hst.out.1]; rfl
            have c1' := (hbk.cell (p := ⟨b, off + k * 2, none⟩) (by show b < _; omega)).trans c1
            have c2' := (hbk.cell (p := ⟨b, off + k * 2 + 1, none⟩) (by show b < _; omega)).trans c2
            clear c1 c2
          case' inr =>
            obtain ⟨m, v, e1, HN⟩ : ∃ m v, est l k = (m, v) ∧ Hid (∀ w, Calls Try.prog 27 #[] w fun e w' => e = .returned (.agg #[.float .f64 m, .float .f64 v]) ∧ Below w.heap.size w w') :=
              ⟨_, _, by unfold est; rw [List.getD_eq_getElem?_getD, List.getElem?_eq_none (by have := hy.1; omega)]; rfl, fun w => New_any w⟩
          all_goals
            rw [e1] at Hck
            clear e1
            obtain ⟨D, hD⟩ : ∃ D, Hid (Dd S l k = D) := ⟨_, rfl⟩
            rw [hD.out] at Hck
          case' inl =>
            go_wp2_with fail
            refine (New_any _).mono ?_
            rintro e w4 ⟨rfl, hb4⟩
            have hbz4 : b < w4.heap.size := by have := hb4.size; omega
            have c1'' := (hb4.cell (p := ⟨b, off + k * 2, none⟩) (by show b < _; omega)).trans c1'
            have c2'' := (hb4.cell (p := ⟨b, off + k * 2 + 1, none⟩) (by show b < _; omega)).trans c2'
            clear c1' c2'
            go_wp2_with fail
          case' inr =>
            go_wp2_with fail
            refine (HN.out _).mono ?_
            rintro e w4 ⟨rfl, hb4⟩
            go_wp2_with fail
          all_goals
            have hz4 : w.heap.size + 3 ≤ w4.heap.size := by have := hb4.size; omega
            have hx : (w4.alloc (.cells #[.float .f64 m, .float .f64 v] 24)).heap[w4.heap.size]? = some (.cells #[.float .f64 m, .float .f64 v] 24 (0, 0)) := heap_alloc_new _ _
            obtain ⟨w5, hw5⟩ : ∃ w5, w4.alloc (.cells #[.float .f64 m, .float .f64 v] 24) = w5 := ⟨_, rfl⟩
            rw [hw5] at hx ⊢
            have hb5 : Below wr.heap.size wr w5 := by rw [← hw5]; exact hb4.alloc hb4.size _
            have hz5 : w5.heap.size = w4.heap.size + 1 := by rw [← hw5]; simp
            have x0 : w5.cell? ⟨w4.heap.size, 0, none⟩ = some (.float .f64 m) := cell_of_row _ _ _ _ _ _ hx
            have x1 : w5.cell? ⟨w4.heap.size, 1, none⟩ = some (.float .f64 v) := cell_of_row _ _ _ _ _ _ hx
            have x2 : w5.cell? ⟨w.heap.size, k, none⟩ = some (.int .i64 (S k)) := (hb5.cell (p := ⟨w.heap.size, k, none⟩) (by show w.heap.size < _; omega)).trans Hs0.out
            have x3 : w5.cell? ⟨w.heap.size + 1 + 1, k, none⟩ = some (.float .f64 0) := (hb5.cell (p := ⟨w.heap.size + 1 + 1, k, none⟩) (by show w.heap.size + 1 + 1 < _; omega)).trans Ho0.out
            have x4 : w5.frozen? ⟨w.heap.size + 1 + 1, k, none⟩ = false := (hb5.frozen (p := ⟨w.heap.size + 1 + 1, k, none⟩) (by show w.heap.size + 1 + 1 < _; omega)).trans Hf0.out
            have Hw5 := Lib.hid hw5
            have Hmk : Hid (∀ w', Below w5.heap.size w5 w' → w'.cell? ⟨w4.heap.size, 0, none⟩ = some (.float .f64 m) ∧ w'.cell? ⟨w4.heap.size, 1, none⟩ = some (.float .f64 v) ∧ w'.cell? ⟨w.heap.size, k, none⟩ = some (.int .i64 (S k))) := fun w' hb =>
              ⟨(hb.cell (p := ⟨w4.heap.size, 0, none⟩) (by show w4.heap.size < _; omega)).trans x0, (hb.cell (p := ⟨w4.heap.size, 1, none⟩) (by show w4.heap.size < _; omega)).trans x1,
                (hb.cell (p := ⟨w.heap.size, k, none⟩) (by show w.heap.size < _; omega)).trans x2⟩
            have Hmk2 : Hid (∀ w' u, Below w5.heap.size w5 w' → (w'.setCell ⟨w.heap.size + 1 + 1, k, none⟩ u).cell? ⟨w4.heap.size, 0, none⟩ = some (.float .f64 m) ∧ (w'.setCell ⟨w.heap.size + 1 + 1, k, none⟩ u).cell? ⟨w4.heap.size, 1, none⟩ = some (.float .f64 v) ∧
                (w'.setCell ⟨w.heap.size + 1 + 1, k, none⟩ u).cell? ⟨w.heap.size, k, none⟩ = some (.int .i64 (S k))) := fun w' u hb => by
              obtain ⟨h1, h2, h3⟩ := Hmk.out w' hb
              exact ⟨(World.cell?_of_block (a := ⟨w4.heap.size, 0, none⟩) (Below.heap_setCell _ _ _ _ (by show w4.heap.size ≠ w.heap.size + 1 + 1; omega))).trans h1,
                (World.cell?_of_block (a := ⟨w4.heap.size, 1, none⟩) (Below.heap_setCell _ _ _ _ (by show w4.heap.size ≠ w.heap.size + 1 + 1; omega))).trans h2,
                (World.cell?_of_block (a := ⟨w.heap.size, k, none⟩) (Below.heap_setCell _ _ _ _ (by show w.heap.size ≠ w.heap.size + 1 + 1; omega))).trans h3⟩
            have Hx3 := Lib.hid x3
            have Hx4 := Lib.hid x4
            clear hx hw5 x0 x1 x2 x3 x4
            go_region_held3 (fun w' => w'.cell? ⟨w4.heap.size, 0, none⟩ = some (.float .f64 m) ∧ w'.cell? ⟨w4.heap.size, 1, none⟩ = some (.float .f64 v) ∧ w'.cell? ⟨w.heap.size, k, none⟩ = some (.int .i64 (S k)))
              ((first | assumption | exact Hmk.out _ (Below.drew (Below.refl _ _)) | exact Hmk.out _ hb6' | exact Hmk2.out _ _ hb6'))
              ((first
                | (go_at_call 12
                   refine (Hck.out _).mono ?_
                   rintro e w6 ⟨rfl, hb6⟩
                   have hb6' : Below w5.heap.size w5 w6 := (Below.drew (Below.refl _ _)).trans hb6
                   have y3 := (hb6'.cell (p := ⟨w.heap.size + 1 + 1, k, none⟩) (by show w.heap.size + 1 + 1 < _; omega)).trans Hx3.out
                   have y4 := (hb6'.frozen (p := ⟨w.heap.size + 1 + 1, k, none⟩) (by show w.heap.size + 1 + 1 < _; omega)).trans Hx4.out)))
          all_goals
            have hbr : Below wr.heap.size wr w6 := hb5.trans (hb6'.mono hb5.size)
            have hD' : (outA (Dd S l) k).setIfInBounds k (.float .f64 D) = outA (Dd S l) (k + 1) := by rw [← hD.out]; exact outA_set _ hk
            have HD' := Lib.hid hD'
            clear hD' y3 y4
            go_wp2_with fail
            go_roundg (gk - 1)
          all_goals first
            | exact ⟨k + 1, by have := Hkg.out; omega, by go_num, (hbk.trans (hbr.mono (by omega))).setCell (by show w.heap.size ≤ w.heap.size + 1 + 1; omega) _, by
                have := hbr.size
                simp [World.setCell]
                omega,
                (Below.heap_setCell _ _ _ _ (by show w.heap.size ≠ w.heap.size + 1 + 1; omega)).trans ((hbr.block _ (by omega)).trans Hsk.out),
                (Below.heap_setCell _ _ _ _ (by show w.heap.size + 1 ≠ w.heap.size + 1 + 1; omega)).trans ((hbr.block _ (by omega)).trans Hqk.out),
                by rw [heap_setCell_same _ _ _ _ _ _ ((hbr.block _ (by omega)).trans Hok.out), HD'.out]⟩
            | (have := Hkg.out; omega)
        · obtain rfl : k = 7 := by omega
          go_wp2_with (first
            | (refine wpList_load_row rfl 62 (.tmp 6) rfl (w.heap.size + 1 + 1) rfl 62 (outA (Dd S l) 7) (0, 0) _ Hok.out Try.underlying62 rfl size7 ?_)
            | (refine wpList_store_row rfl 62 (.tmp 4) (.tmp 48) rfl (w.heap.size + 1) (outA (Dd S l) 7) rfl rfl 62 (outA (Dd S l) 0) Hqk.out size7 rfl (outA_one _ _) ?_))
          have hl := run_loadVar_row (P := Try.prog) (wr.setRow (w.heap.size + 1) (outA (Dd S l) 7)) (w.heap.size + 1) 62 62 (outA (Dd S l) 7) (0, 0) _ (setRow_heap _ _ _ _ _ _ Hqk.out) Try.underlying62 rfl size7
          exact bodyPost_ret (v := .tuple #[.agg (outA (Dd S l) 7), .int .i64 0]) (by simp [results, Try.results38, asAddr, hl]) rfl (HP1.out _ Hall2.out (below_setRow hbk (by omega) _))
end Go.Proofs.Ytebfaghgcecacaa
