/-
  The walk of DiskTrips.
-/
import Derived.Test.YtlopeflgleplfaaTorn
namespace Go.Proofs.Ytlopeflgleplfaa
open Go.RowKit
/-- After k writes, i of them a byte of l: is the power gone? -/
structure TI (n : Int) (l : List UInt8) (i k : Nat) (s : DS) : Prop where
  room : s.room = 65536
  off : s.off = decide (0 < n ∧ n ≤ (k : Int))
  on : s.off = false → s.file = l.take i ∧ (s.trip : Int) = if 0 < n then n - k else 0
  dead : s.off = true → s.trip = 0
  pre : ∃ j, s.file = l.take j
theorem TI.last {n : Int} {l : List UInt8} {i k : Nat} {s : DS} (h : TI n l i k s) (ho : s.off = false) : s.isLast = decide (0 < n ∧ n ≤ ((k + 1 : Nat) : Int)) := by
  have h1 := (h.on ho).2
  have h2 := h.off
  rw [ho] at h2
  have h3 : ¬ (0 < n ∧ n ≤ (k : Int)) := by simpa using h2.symm
  unfold DS.isLast
  apply decide_eq_decide.2
  split at h1 <;> omega
theorem TI.done {n : Int} {l : List UInt8} {i i' k : Nat} {s s1 : DS} (h : TI n l i k s) (ho : s.off = false) (f : DS → DS) (h1 : s1.off = false) (h2 : s1.trip = s.trip) (h3 : s1.room = 65536) (hf : s1.file = l.take i')
    (f1 : (f s1.count).off = false) (f2 : (f s1.count).trip = s1.count.trip) (f3 : (f s1.count).room = 65536) (f4 : (f s1.count).file = s1.file) :
    (s1.done f).1 = (if 0 < n ∧ n ≤ ((k + 1 : Nat) : Int) then 4 else 0) ∧ TI n l i' (k + 1) (s1.done f).2 := by
  have hl : s1.isLast = decide (0 < n ∧ n ≤ ((k + 1 : Nat) : Int)) := by rw [← h.last ho]; unfold DS.isLast; rw [h2]
  have ht := (h.on ho).2
  unfold DS.done
  by_cases hc : 0 < n ∧ n ≤ ((k + 1 : Nat) : Int)
  · rw [hl, if_pos (by simpa using hc), if_pos hc]
    refine ⟨rfl, ?_⟩
    have e : s1.count.off = false := h1
    refine ⟨?_, ?_, ?_, ?_, ?_⟩
    · unfold DS.crash; rw [if_neg (by rw [e]; simp)]; exact h3
    · simp [DS.crash, e]; simpa using hc
    · intro hx
      simp [DS.crash, e] at hx
    · simp [DS.crash, e]
    · exact ⟨min (s1.count.stays s1.count.keep) i', by simp [DS.crash, e]; rw [show s1.count.file = s1.file from rfl, hf, List.take_take]⟩
  · rw [hl, if_neg (by simpa using hc), if_neg hc]
    have h5 := h.off
    rw [ho] at h5
    have h6 : ¬ (0 < n ∧ n ≤ (k : Int)) := by simpa using h5.symm
    refine ⟨rfl, f3, ?_, ?_, ?_, ⟨i', by rw [f4, hf]⟩⟩
    · rw [f1]; symm; simpa using hc
    · intro _
      refine ⟨by rw [f4, hf], ?_⟩
      rw [f2]
      show ((s1.trip - 1 : Nat) : Int) = _
      rw [h2]
      split at ht <;> split <;> omega
    · intro hx; rw [f1] at hx; cases hx
theorem TI.append {n : Int} {l : List UInt8} {i k : Nat} {s : DS} {c : UInt8} (h : TI n l i k s) (hi : i < 300) (hc : l[i]? = some c) :
    (s.append [c]).1 = (if 0 < n ∧ n ≤ ((k + 1 : Nat) : Int) then 4 else 0) ∧ TI n l (i + 1) (k + 1) (s.append [c]).2 := by
  cases ho : s.off
  · have hf := (h.on ho).1
    have hr := h.room
    have hlen : s.file.length ≤ 300 := by rw [hf, List.length_take]; omega
    have e : s.append [c] = DS.done { s with file := s.file ++ [c] } id := by
      unfold DS.append
      rw [ho]
      simp only [Bool.false_eq_true, if_false]
      rw [if_neg (by rw [hr]; simp; omega)]
    rw [e]
    have hf' : s.file ++ [c] = l.take (i + 1) := by rw [hf, List.take_add_one, hc]; rfl
    exact h.done ho id ho rfl hr hf' ho rfl hr rfl
  · have e : s.append [c] = (4, s) := DS.append_off _ _ ho
    have h1 := h.off
    rw [ho] at h1
    have h2 : 0 < n ∧ n ≤ (k : Int) := by simpa using h1.symm
    rw [e, if_pos (by omega)]
    exact ⟨rfl, h.room, by rw [ho]; symm; simp; omega, fun hx => (by rw [ho] at hx; cases hx), h.dead, h.pre⟩
theorem TI.sync {n : Int} {l : List UInt8} {i k : Nat} {s : DS} (h : TI n l i k s) :
    s.sync.1 = (if 0 < n ∧ n ≤ ((k + 1 : Nat) : Int) then 4 else 0) ∧ TI n l i (k + 1) s.sync.2 := by
  cases ho : s.off
  · have hf := (h.on ho).1
    have hr := h.room
    have e : s.sync = s.done fun s => { s with synced := s.file.length } := by
      unfold DS.sync
      rw [ho]
      simp only [Bool.false_eq_true, if_false]
    rw [e]
    exact h.done ho _ ho rfl hr hf ho rfl hr rfl
  · have e : s.sync = (4, s) := DS.sync_off _ ho
    have h1 := h.off
    rw [ho] at h1
    have h2 : 0 < n ∧ n ≤ (k : Int) := by simpa using h1.symm
    rw [e, if_pos (by omega)]
    exact ⟨rfl, h.room, by rw [ho]; symm; simp; omega, fun hx => (by rw [ho] at hx; cases hx), h.dead, h.pre⟩
theorem TI.new (n keep : Int) (l : List UInt8) : TI n l 0 0 ((DS.new 65536).setTrip n keep) := by
  have e : (DS.new 65536).setTrip n keep = { DS.new 65536 with trip := (max n 0).toNat, keep := keep } := by simp [DS.setTrip, DS.new]
  rw [e]
  refine ⟨rfl, ?_, fun _ => ⟨by simp [DS.new], ?_⟩, fun hx => by simp [DS.new] at hx, ⟨0, by simp [DS.new]⟩⟩
  · symm
    simp [DS.new]
  · show (((max n 0).toNat : Nat) : Int) = _
    split <;> omega
/-- Behind the loop: the trip is taken off, the power is on. -/
theorem TI.fin {n : Int} {l : List UInt8} {i k : Nat} {s : DS} (h : TI n l i k s) : ∃ (j syn : Nat) (kp : Int), j ≤ l.length ∧ (s.setTrip 0 0).start = ⟨65536, l.take j, syn, false, 0, kp⟩ := by
  obtain ⟨j, hj⟩ := h.pre
  obtain ⟨room, file, syn, off, trip, keep⟩ := s
  have hr := h.room
  have hd := h.dead
  simp only at hr hj hd
  subst hr hj
  have e : l.take (min j l.length) = l.take j := by
    rw [← List.take_take, List.take_of_length_le (Nat.le_refl _)]
  cases off
  · exact ⟨min j l.length, syn, 0, by omega, by rw [e]; rfl⟩
  · have := hd rfl
    subst this
    exact ⟨min j l.length, syn, keep, by omega, by rw [e]; rfl⟩
theorem one_by (w : World) (a : UInt8) : By (w.alloc (.cells #[.int .u8 (a.toNat : Int)] 5 (1, 2))) (w.heap.size + 1) (some ⟨w.heap.size, 0, none⟩) 1 1 [a] := by
  refine ⟨rfl, Nat.le_refl _, by decide, fun _ => ⟨w.heap.size, 0, rfl, by omega, fun j u hu => ?_⟩⟩
  rw [Nat.zero_add, World.cell?_alloc_mark]
  simpa [bv] using hu
set_option maxRecDepth 100000 in
set_option maxHeartbeats 3200000 in
theorem trips_walk (n keep : Int) (A : Option Addr) (m cap : Nat) (l : List UInt8) (syncs : Bool) (W : World) (hy : By W W.heap.size A m cap l) (hn : -9223372036854775808 ≤ n ∧ n ≤ 9223372036854775807) (hk : -9223372036854775808 ≤ keep ∧ keep ≤ 9223372036854775807) :
    Calls Try.prog 3 #[.int .i64 n, .int .i64 keep, .slice A m cap, .bool syncs] W fun e w' => e = .returned (.bool true) ∧ Below W.heap.size W w' := by
  have hm := hy.n_le
  by_cases h3 : 300 < m
  · go_enter Try.func3, Try.ntmps3
    go_wp2_with fail
    go_ret
    exact ⟨rfl, Below.refl _ _⟩
  have Hl : Hid (l.length = m) := hy.len
  have kc := fun (w : World) (C : Array Value) (n c : Nat) => Lib.run_convert_bytes_const (P := Try.prog) w 22 5 C n c Try.underlying22 Try.underlying5
  have kd : ∀ (w : World) (q : Nat) (C : Array Value) (n c : Nat), (convert 22 22 (.slice (some ⟨w.heap.size, 0, none⟩) n c)).run Try.prog ((w.drewN q).alloc (.cells C 5)) = .ok (.slice (some ⟨w.heap.size, 0, none⟩) n c) ((w.drewN q).alloc (.cells C 5 (C.size, C.size + 1))) := fun w q C n c => kc (w.drewN q) C n c
  clear kc
  go_enter Try.func3, Try.ntmps3
  go_wp2_with fail
  refine (DQ.new 65536 W (by omega)).mono ?_
  rintro e w1 ⟨rfl, q1⟩
  go_wp2_with fail
  refine (DQ.trip _ _ _ _ _ n keep q1 hn.2 hk).mono ?_
  rintro e w2 ⟨rfl, q2⟩
  go_wp2_with fail
  go_loopg [11, 12, 13] m (fun g s11 s12 _ wr => ∃ (i k : Nat) (s : DS), i + g = m ∧ k ≤ 2 * i ∧ s11 = .int .i64 k ∧ s12 = .int .i64 i ∧ DQ W wr W.heap.size W.heap.size s ∧ TI n l i k s)
  case atStart => exact ⟨0, 0, _, by omega, by omega, rfl, rfl, q2, TI.new n keep l⟩
  case round =>
    obtain ⟨i, k, s, hig, hk2, rfl, rfl, q, ti⟩ := hrel
    have him : i ≤ m := by omega
    have Hig := Lib.hid hig
    clear hig
    by_cases hlt : i < m
    · obtain ⟨b, off, c, rfl, _, _, Hc⟩ := hy.step hlt
      obtain ⟨A9, c9, hsl9, hy9⟩ := By.cut (P := Try.prog) 22 5 Try.underlying22 size_u8 hy i (i + 1) 1 (i : Int) ((i : Int) + 1) rfl (by omega) rfl (by omega)
      have hone : (l.drop i).take 1 = [c] := by
        have h1 := Hc.out.1
        have h2 : i < l.length := by rw [Hl.out]; exact hlt
        rw [List.drop_eq_getElem_cons h2]
        rw [List.getElem?_eq_getElem h2] at h1
        injection h1 with h1
        simp [h1]
      rw [hone] at hy9
      clear hone
      have t1 := ti.append (by omega) Hc.out.1
      have t2 := t1.2.sync
      obtain ⟨S1, HS1⟩ : ∃ S1, Hid (s.append [c] = S1) := ⟨_, rfl⟩
      rw [HS1.out] at t1 t2
      obtain ⟨a1, s1⟩ := S1
      simp only at t1 t2
      obtain ⟨e1, t1⟩ := t1
      obtain ⟨S2, HS2⟩ : ∃ S2, Hid (s1.sync = S2) := ⟨_, rfl⟩
      rw [HS2.out] at t2
      obtain ⟨a2, s2⟩ := S2
      simp only at t2
      obtain ⟨e2, t2⟩ := t2
      rw [show ((k + 1 : Nat) : Int) = (k : Int) + 1 by omega] at e1
      rw [show ((k + 1 + 1 : Nat) : Int) = (k : Int) + 1 + 1 by omega] at e2
      have hki : (k : Int) ≤ 600 := by omega
      cases syncs
      · by_cases h0 : 0 < n
        all_goals by_cases h1 : n ≤ (k : Int) + 1
        all_goals by_cases h2 : n ≤ (k : Int) + 1 + 1
        all_goals (try (exfalso; omega))
        all_goals simp only [h0, h1, h2, and_self, and_true, and_false, if_true, if_false] at e1 e2
        all_goals subst e1 e2
        all_goals go_wp2_with fail
        all_goals refine (DQ.append _ _ _ _ _ _ _ _ _ [c] q (hy9.below q.below (Nat.le_refl _))).mono ?_
        all_goals rw [HS1.out]
        all_goals dsimp only
        all_goals rintro e w3 ⟨rfl, q3⟩
        all_goals go_wp2_with fail
        all_goals go_roundg (gk - 1)
        all_goals first
          | exact ⟨i + 1, k + 1, s1, by have := Hig.out; omega, by omega, by go_num, by go_num, q3, t1⟩
          | (have := Hig.out; omega)
      · by_cases h0 : 0 < n
        all_goals by_cases h1 : n ≤ (k : Int) + 1
        all_goals by_cases h2 : n ≤ (k : Int) + 1 + 1
        all_goals (try (exfalso; omega))
        all_goals simp only [h0, h1, h2, and_self, and_true, and_false, if_true, if_false] at e1 e2
        all_goals subst e1 e2
        all_goals go_wp2_with fail
        all_goals refine (DQ.append _ _ _ _ _ _ _ _ _ [c] q (hy9.below q.below (Nat.le_refl _))).mono ?_
        all_goals rw [HS1.out]
        all_goals dsimp only
        all_goals rintro e w3 ⟨rfl, q3⟩
        all_goals go_wp2_with fail
        all_goals refine (DQ.sync _ _ _ _ _ q3).mono ?_
        all_goals rw [HS2.out]
        all_goals dsimp only
        all_goals rintro e w4 ⟨rfl, q4⟩
        all_goals go_wp2_with fail
        all_goals go_roundg (gk - 1)
        all_goals first
          | exact ⟨i + 1, k + 1 + 1, s2, by have := Hig.out; omega, by omega, by go_num, by go_num, q4, t2⟩
          | (have := Hig.out; omega)
    · obtain ⟨j, syn, kp, hj, hfin⟩ := ti.fin
      have hjm : j ≤ m := by rw [← Hl.out]; exact hj
      obtain ⟨A9, c9, hsl9, hy9⟩ := By.cutH (P := Try.prog) 22 5 Try.underlying22 size_u8 hy j (j : Int) rfl hjm
      obtain ⟨L9, hL9⟩ : ∃ L9, Hid (l.take j = L9) := ⟨_, rfl⟩
      rw [hL9.out] at hy9 hfin
      have Hlen : Hid (L9.length = j) := hy9.len
      have Hfin := Lib.hid hfin
      clear hfin
      have hki : (k : Int) ≤ 600 := by omega
      have hoff := ti.off
      by_cases h0 : 0 < n
      all_goals by_cases h1 : n ≤ (k : Int)
      all_goals simp only [h0, h1, and_self, and_true, and_false, decide_true, decide_false] at hoff
      all_goals go_wp2_with fail
      all_goals refine (DQ.isOff _ _ _ _ _ q).mono ?_
      all_goals rw [hoff]
      all_goals clear hoff
      all_goals rintro e w5 ⟨rfl, rfl⟩
      all_goals go_wp2_with fail
      all_goals refine (DQ.trip _ _ _ _ _ 0 0 q (by omega) (by omega)).mono ?_
      all_goals rintro e w6 ⟨rfl, q6⟩
      all_goals go_wp2_with fail
      all_goals refine (DQ.start _ _ _ _ _ q6).mono ?_
      all_goals rw [Hfin.out]
      all_goals rintro e w7 ⟨rfl, q7⟩
      all_goals go_wp2_with fail
      all_goals refine (DQ.read _ _ _ _ _ q7).mono ?_
      all_goals rintro e w8 ⟨q8, hb8, v8, rfl, ho⟩
      all_goals have ho' : OwnB w8 w7.heap.size v8 L9 := ho
      all_goals obtain ⟨A8, c8, rfl, hy8⟩ := own_by ho' Hlen.out
      all_goals clear ho ho'
      all_goals go_wp2_with fail
      all_goals refine (Bytes_same _ _ _ _ _ _ L9 _ _ _ hy8 (hy9.below q8.below (Nat.le_refl _))).mono ?_
      all_goals rintro e w9 ⟨rfl, k9, rfl⟩
      all_goals have q9 := q8.drewN k9
      all_goals go_wp2_with fail
      all_goals refine (DQ.append _ _ _ _ _ _ _ _ _ [120] (q9.alloc _) (one_by _ 120)).mono ?_
      all_goals rw [DS.append_ok _ _ _ _ _ (by rw [Hlen.out]; simp; omega)]
      all_goals rintro e w10 ⟨rfl, q10⟩
      all_goals go_wp2_with fail
      all_goals refine (wakes_any _).mono ?_
      all_goals rintro e w11 ⟨rfl, hb11⟩
      all_goals go_wp2_with fail
      all_goals go_ret
      all_goals exact ⟨rfl, q10.below.trans (hb11.mono (by have := q10.size; omega))⟩
end Go.Proofs.Ytlopeflgleplfaa
