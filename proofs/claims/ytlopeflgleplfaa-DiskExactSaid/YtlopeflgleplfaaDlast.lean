/-
  The walks of the disk's methods.
-/
import Derived.Test.YtlopeflgleplfaaDs
namespace Go.Proofs.Ytlopeflgleplfaa
open Go.RowKit
set_option maxHeartbeats 400000 in
theorem last_any (base d : Nat) (v : Value) (s : DS) (w : World) (h : DiskAt w base d v s) :
    Calls Try.prog 26 #[.pointer (some ⟨d, 0, none⟩)] w fun e w' => e = .returned (.bool s.isLast) ∧ DiskAt w' base d v s.count ∧ FrmD w w' d v.ownBlock := by
  obtain ⟨_, _, _, _, c4, _, hf⟩ := h.cell
  have hf4 := hf 4
  clear hf
  have ht := h.ok.trip
  by_cases h0 : s.trip = 0
  · have e0 : ((s.trip : Int) == 0) = true := by simp [h0]
    have H0 := Lib.hid h0
    clear h0
    go_enter Try.func26, Try.ntmps26
    go_wp2_with fail
    go_ret
    refine ⟨ret_bool (by simp [DS.isLast, H0.out]), ?_, FrmD.refl _ _ _⟩
    have e : s.count = s := by cases s; simp [DS.count]; have := H0.out; simp at this; omega
    rw [e]
    exact h
  · have e0 : ((s.trip : Int) == 0) = false := by simp; omega
    have hp : 0 < s.trip := by omega
    clear h0
    go_enter Try.func26, Try.ntmps26
    go_wp2_with fail
    go_ret
    have hb1 : ((s.trip : Int) - 1 == 0) = s.isLast := by
      unfold DS.isLast
      by_cases h1 : s.trip = 1
      · simp [h1]
      · rw [decide_eq_false h1]; simp; omega
    refine ⟨ret_bool hb1, ?_, (FrmD.refl _ _ _).set _ _⟩
    refine h.set 4 _ ?_ h.file h.ok.count
    have e : ((s.trip : Int) - 1) = ((s.trip - 1 : Nat) : Int) := by omega
    rw [e]
    rfl
/-- The file cut off. -/
theorem own_take {w : World} {base n cap k : Nat} {A : Option Addr} {l : List UInt8} (h : OwnB w base (.slice A n cap) l) (hl : l.length = n) (hk : k ≤ n) : OwnB w base (.slice A k cap) (l.take k) := by
  subst hl
  have hlen : (l.take k).length = k := by rw [List.length_take]; omega
  obtain ⟨h1, ⟨e, h2⟩ | ⟨g, cap', cur, e, hb, hg, hn, hm, hs, ht⟩⟩ := h
  · injection e with e1 e2 e3
    subst e1 e3
    have hk0 : k = 0 := by omega
    subst hk0
    refine ⟨by simp, .inl ⟨rfl, by simp⟩⟩
  · injection e with e1 e2 e3
    subst e1 e3
    refine ⟨by simp, .inr ⟨g, cap, cur, by rw [hlen], hb, hg, by rw [hlen]; omega, hm, hs, ?_⟩⟩
    rw [hlen, List.map_take, ← ht, List.take_take]
    congr 1
    omega
set_option maxHeartbeats 800000 in
theorem crash_off (base d : Nat) (v : Value) (s : DS) (keep : Int) (w : World) (h : DiskAt w base d v s) (ho : s.off = true) :
    Calls Try.prog 19 #[.pointer (some ⟨d, 0, none⟩), .int .i64 keep] w (DPost w base d v (.tuple #[]) (s.crash keep)) := by
  obtain ⟨_, _, _, c3, c4, _, hf⟩ := h.cell
  have hf4 := hf 4
  rw [ho] at c3
  clear hf
  have Ho := Lib.hid ho
  clear ho
  go_enter Try.func19, Try.ntmps19
  go_wp2_with fail
  refine bodyPost_ret (results_none rfl _ _ _) rfl ?_
  have e : s.crash keep = { s with trip := 0 } := by simp [DS.crash, Ho.out]
  refine ⟨rfl, v, ?_, (FrmD.refl _ _ _).set _ _, NewOr.refl _ _⟩
  rw [e]
  exact h.set 4 _ rfl h.file ⟨h.ok.room, h.ok.file, h.ok.synced, by simp, h.ok.keep⟩
set_option maxHeartbeats 1600000 in
theorem crash_on (base d : Nat) (v : Value) (s : DS) (keep : Int) (w : World) (hD : DiskAt w base d v s) (ho : s.off = false) :
    Calls Try.prog 19 #[.pointer (some ⟨d, 0, none⟩), .int .i64 keep] w (DPost w base d v (.tuple #[]) (s.crash keep)) := by
  obtain ⟨n, hn⟩ : ∃ n, s.file.length = n := ⟨_, rfl⟩
  obtain ⟨A, cap, rfl, hy⟩ := own_by hD.file hn
  obtain ⟨_, c1, c2, c3, c4, _, hf⟩ := hD.cell
  have hf1 := hf 1
  have hf2 := hf 2
  have hf3 := hf 3
  have hf4 := hf 4
  rw [ho] at c3
  clear hf
  have Ho := Lib.hid ho
  have hr := hD.ok.room
  have hfl := hD.ok.file
  have hsy := hD.ok.synced
  have hst := DS.stays_le s keep hD.ok
  have hcap := hy.2.1
  rw [hn] at hfl hsy hst
  obtain ⟨K, hK⟩ : ∃ K, Hid (s.stays keep = K) := ⟨_, rfl⟩
  rw [hK.out] at hst
  have hidx : ((s.synced : Int) + if (if (n : Int) - (s.synced : Int) < keep then (n : Int) - (s.synced : Int) else keep) < 0 then 0 else if (n : Int) - (s.synced : Int) < keep then (n : Int) - (s.synced : Int) else keep) = (K : Int) := by
    have := hK.out
    unfold DS.stays at this
    rw [hn] at this
    omega
  have Hn := Lib.hid hn
  clear ho hn
  go_enter Try.func19, Try.ntmps19
  go_wp2_with fail
  go_quiet (fail)
  go_wp2_with fail
  go_region
  all_goals
    go_wp2_with fail
  all_goals
    go_end0
    have hKs := hK.out
    have hnn := Hn.out
    have e : s.crash keep = { s with trip := 0, off := true, file := s.file.take K, synced := K } := by simp [DS.crash, Ho.out, hKs]
    have ok := hD.ok
    have q1 := hD.set (s' := { s with trip := 0 }) 4 (.int .i64 0) rfl hD.file ⟨ok.room, ok.file, ok.synced, by simp, ok.keep⟩
    have q2 := q1.set (s' := { s with trip := 0, off := true }) 3 (.bool true) rfl q1.file ⟨ok.room, ok.file, ok.synced, by simp, ok.keep⟩
    have q3 := (q2.drewN (nq + 1)).set (v' := .slice A K cap) (s' := { s with trip := 0, off := true, file := s.file.take K }) 1 (.slice A K cap) rfl (own_take (q2.drewN (nq + 1)).file hnn hst.2)
      ⟨ok.room, by have := ok.file; simp; omega, by simp; omega, by simp, ok.keep⟩
    have q4 := q3.set (s' := { s with trip := 0, off := true, file := s.file.take K, synced := K }) 2 (.int .i64 K) rfl q3.file
      ⟨ok.room, by have := ok.file; simp; omega, by simp; omega, by simp, ok.keep⟩
    refine ⟨rfl, .slice A K cap, ?_, ((((FrmD.refl _ _ _).set _ _).set _ _).drewN _ |>.set _ _).set _ _, .inl (by cases A <;> rfl)⟩
    rw [e]
    exact q4
theorem crash_any (base d : Nat) (v : Value) (s : DS) (keep : Int) (w : World) (h : DiskAt w base d v s) :
    Calls Try.prog 19 #[.pointer (some ⟨d, 0, none⟩), .int .i64 keep] w (DPost w base d v (.tuple #[]) (s.crash keep)) := by
  cases ho : s.off
  · exact crash_on base d v s keep w h ho
  · exact crash_off base d v s keep w h ho
set_option maxHeartbeats 400000 in
theorem start_any (base d : Nat) (v : Value) (s : DS) (w : World) (h : DiskAt w base d v s) :
    Calls Try.prog 15 #[.pointer (some ⟨d, 0, none⟩)] w (DPost w base d v (.tuple #[]) s.start) := by
  obtain ⟨_, _, _, c3, _, _, hf⟩ := h.cell
  have hf3 := hf 3
  clear hf
  go_enter Try.func15, Try.ntmps15
  go_wp2_with fail
  go_end0
  exact ⟨rfl, v, h.set (s' := s.start) 3 _ rfl h.file h.ok.start, (FrmD.refl _ _ _).set _ _, NewOr.refl _ _⟩
set_option maxHeartbeats 400000 in
theorem off_any (base d : Nat) (v : Value) (s : DS) (w : World) (h : DiskAt w base d v s) :
    Calls Try.prog 14 #[.pointer (some ⟨d, 0, none⟩)] w fun e w' => e = .returned (.bool s.off) ∧ w = w' := by
  obtain ⟨_, _, _, c3, _, _, _⟩ := h.cell
  go_enter Try.func14, Try.ntmps14
  go_wp2_with fail
  go_ret
  exact ⟨rfl, rfl⟩
set_option maxHeartbeats 400000 in
theorem size_any (base d : Nat) (v : Value) (s : DS) (w : World) (h : DiskAt w base d v s) :
    Calls Try.prog 20 #[.pointer (some ⟨d, 0, none⟩)] w fun e w' => e = .returned (.int .i64 (s.file.length : Int)) ∧ w = w' := by
  obtain ⟨n, hn⟩ : ∃ n, Hid (s.file.length = n) := ⟨_, rfl⟩
  obtain ⟨A, cap, rfl, hy⟩ := own_by h.file hn.out
  obtain ⟨_, c1, _, _, _, _, _⟩ := h.cell
  have hf1 := h.ok.file
  have hf2 := h.ok.room
  rw [hn.out] at hf1 ⊢
  go_enter Try.func20, Try.ntmps20
  go_wp2_with fail
  go_ret
  exact ⟨rfl, rfl⟩
set_option maxHeartbeats 400000 in
theorem trip_any (base d : Nat) (v : Value) (s : DS) (n keep : Int) (w : World) (h : DiskAt w base d v s) (hn : n ≤ 9223372036854775807) (hk : -9223372036854775808 ≤ keep ∧ keep ≤ 9223372036854775807) :
    Calls Try.prog 11 #[.pointer (some ⟨d, 0, none⟩), .int .i64 n, .int .i64 keep] w (DPost w base d v (.tuple #[]) (s.setTrip n keep)) := by
  obtain ⟨_, _, _, c3, c4, c5, hf⟩ := h.cell
  have hf4 := hf 4
  have hf5 := hf 5
  clear hf
  have ok := h.ok.setTrip n keep hn hk
  cases ho : s.off
  · rw [ho] at c3
    have e : s.setTrip n keep = { s with trip := (max n 0).toNat, keep := keep } := by simp [DS.setTrip, ho]
    rw [e] at ok ⊢
    have Ho := Lib.hid ho
    clear ho e
    by_cases h0 : n < 0
    all_goals
      go_enter Try.func11, Try.ntmps11
      go_wp2_with fail
    all_goals
      go_end0
      have hm : ((max n 0).toNat : Int) = max n 0 := by omega
      have q1 := h.set (s' := { s with trip := (max n 0).toNat }) 4 (.int .i64 ((max n 0).toNat : Int)) rfl h.file ⟨ok.room, ok.file, ok.synced, ok.trip, h.ok.keep⟩
      have q2 := q1.set (s' := { s with trip := (max n 0).toNat, keep := keep }) 5 (.int .i64 keep) rfl q1.file ok
      refine ⟨rfl, v, ?_, ((FrmD.refl _ _ _).set _ _).set _ _, NewOr.refl _ _⟩
      have e2 : ((max n 0).toNat : Int) = if n < 0 then 0 else n := by split <;> omega
      rw [e2] at q2
      first | exact q2 | (rw [if_pos (by omega)] at q2; exact q2) | (rw [if_neg (by omega)] at q2; exact q2)
  · rw [ho] at c3
    have e : s.setTrip n keep = s := by simp [DS.setTrip, ho]
    rw [e]
    clear ho e ok
    go_enter Try.func11, Try.ntmps11
    go_wp2_with fail
    go_end0
    exact ⟨rfl, v, h, FrmD.refl _ _ _, NewOr.refl _ _⟩
end Go.Proofs.Ytlopeflgleplfaa
