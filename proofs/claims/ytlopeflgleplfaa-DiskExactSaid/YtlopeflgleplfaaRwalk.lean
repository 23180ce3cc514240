/-
  The walks of the page's disk.
-/
import Derived.Test.YtlopeflgleplfaaRs
import Derived.Test.YtlopeflgleplfaaDwrite
namespace Go.Proofs.Ytlopeflgleplfaa
open Go.RowKit
set_option maxHeartbeats 400000 in
theorem rlast_any (base d : Nat) (v : Value) (s : DS) (w : World) (h : RefAt w base d v s) :
    Calls Try.prog 33 #[.pointer (some ⟨d, 0, none⟩)] w fun e w' => e = .returned (.bool s.isLast) ∧ RefAt w' base d v s.count ∧ FrmD w w' d v.ownBlock := by
  obtain ⟨_, _, _, _, c4, _, hf⟩ := h.cell
  have hf4 := hf 4
  clear hf
  have ht := h.ok.trip
  by_cases h0 : s.trip = 0
  · have e0 : (s.trip : Int) < 1 := by omega
    have H0 := Lib.hid h0
    clear h0
    go_enter Try.func33, Try.ntmps33
    go_wp2_with fail
    go_ret
    refine ⟨ret_bool (by simp [DS.isLast, H0.out]), ?_, FrmD.refl _ _ _⟩
    have e : s.count = s := by cases s; simp [DS.count]; have := H0.out; simp at this; omega
    rw [e]
    exact h
  · have e0 : ¬ (s.trip : Int) < 1 := by omega
    have hp : 0 < s.trip := by omega
    clear h0
    go_enter Try.func33, Try.ntmps33
    go_wp2_with fail
    go_ret
    have hb1 : ((s.trip : Int) - 1 == 0) = s.isLast := by
      unfold DS.isLast
      by_cases h1 : s.trip = 1
      · simp [h1]
      · rw [decide_eq_false h1]; simp; omega
    refine ⟨ret_bool hb1, ?_, (FrmD.refl _ _ _).set _ _⟩
    refine h.set 4 _ ?_ h.file h.ok.count
    have e : ((s.trip : Int) - 1) = ((s.trip - 1 : Nat) : Int) := by omega
    rw [e]
    rfl
set_option maxHeartbeats 800000 in
theorem rcrash_off (base d : Nat) (v : Value) (s : DS) (keep : Int) (w : World) (h : RefAt w base d v s) (ho : s.off = true) :
    Calls Try.prog 30 #[.pointer (some ⟨d, 0, none⟩), .int .i64 keep] w (RPost w base d v (.tuple #[]) (s.crash keep)) := by
  obtain ⟨_, _, _, c3, c4, _, hf⟩ := h.cell
  have hf4 := hf 4
  rw [ho] at c3
  clear hf
  have Ho := Lib.hid ho
  clear ho
  go_enter Try.func30, Try.ntmps30
  go_wp2_with fail
  refine bodyPost_ret (results_none rfl _ _ _) rfl ?_
  have e : s.crash keep = { s with trip := 0 } := by simp [DS.crash, Ho.out]
  refine ⟨rfl, v, ?_, (FrmD.refl _ _ _).set _ _, NewOr.refl _ _⟩
  rw [e]
  exact h.set 4 _ rfl h.file ⟨h.ok.room, h.ok.file, h.ok.synced, by simp, h.ok.keep⟩
set_option maxHeartbeats 1600000 in
theorem rcrash_on (base d : Nat) (v : Value) (s : DS) (keep : Int) (w : World) (hD : RefAt w base d v s) (ho : s.off = false) :
    Calls Try.prog 30 #[.pointer (some ⟨d, 0, none⟩), .int .i64 keep] w (RPost w base d v (.tuple #[]) (s.crash keep)) := by
  obtain ⟨n, hn⟩ : ∃ n, s.file.length = n := ⟨_, rfl⟩
  obtain ⟨A, cap, rfl, hy⟩ := own_by hD.file hn
  obtain ⟨_, c1, c2, c3, c4, _, hf⟩ := hD.cell
  have hf1 := hf 1
  have hf2 := hf 2
  have hf3 := hf 3
  have hf4 := hf 4
  rw [ho] at c3
  clear hf
  have Ho := Lib.hid ho
  have hr := hD.ok.room
  have hfl := hD.ok.file
  have hsy := hD.ok.synced
  have hst := DS.stays_le s keep hD.ok
  have hcap := hy.2.1
  rw [hn] at hfl hsy hst
  obtain ⟨K, hK⟩ : ∃ K, Hid (s.stays keep = K) := ⟨_, rfl⟩
  rw [hK.out] at hst
  have Hn := Lib.hid hn
  have ok := hD.ok
  have e : s.crash keep = { s with trip := 0, off := true, file := s.file.take K, synced := K } := by simp [DS.crash, Ho.out, hK.out]
  have HE := Lib.hid e
  clear ho hn e
  have hst9 := hst
  have Hfin : Hid (∀ nq, RPost w base d (.slice A n cap) (.tuple #[]) (s.crash keep) (.returned (.tuple #[])) (((((w.setCell ⟨d, 4, none⟩ (.int .i64 0)).setCell ⟨d, 3, none⟩ (.bool true)).drewN nq).setCell ⟨d, 1, none⟩ (.slice A K cap)).setCell ⟨d, 2, none⟩ (.int .i64 K))) := fun nq => by
    have hnn := Hn.out
    have q1 := hD.set (s' := { s with trip := 0 }) 4 (.int .i64 0) rfl hD.file ⟨ok.room, ok.file, ok.synced, by simp, ok.keep⟩
    have q2 := q1.set (s' := { s with trip := 0, off := true }) 3 (.bool true) rfl q1.file ⟨ok.room, ok.file, ok.synced, by simp, ok.keep⟩
    have q3 := (q2.drewN nq).set (v' := .slice A K cap) (s' := { s with trip := 0, off := true, file := s.file.take K }) 1 (.slice A K cap) rfl (own_take (q2.drewN nq).file hnn hst9.2)
      ⟨ok.room, by have := ok.file; simp; omega, by simp; omega, by simp, ok.keep⟩
    have q4 := q3.set (s' := { s with trip := 0, off := true, file := s.file.take K, synced := K }) 2 (.int .i64 K) rfl q3.file
      ⟨ok.room, by have := ok.file; simp; omega, by simp; omega, by simp, ok.keep⟩
    refine ⟨rfl, .slice A K cap, ?_, ((((FrmD.refl _ _ _).set _ _).set _ _).drewN _ |>.set _ _).set _ _, .inl (by cases A <;> rfl)⟩
    rw [HE.out]
    exact q4
  have hsn : (s.synced : Int) ≤ n := by omega
  have hKd := hK.out
  unfold DS.stays at hKd
  rw [Hn.out] at hKd
  have hKn : (K : Int) ≤ (cap : Int) := by omega
  have hn6 : n ≤ 65536 := by omega
  obtain ⟨y, hy⟩ : ∃ y, s.synced = y := ⟨_, rfl⟩
  rw [hy] at hKd hst hsn hsy c2
  have hz0 : keep < 0 → K = y := fun h => by omega
  have hz1 : ¬ keep < 0 → keep < (n : Int) - y → (K : Int) = y + keep := fun h h2 => by omega
  have hz2 : ¬ keep < 0 → ¬ keep < (n : Int) - y → K = n := fun h h2 => by omega
  clear hKd hK ok hst9 hst
  have hKy : y ≤ K := by
    by_cases h : keep < 0
    · have := hz0 h; omega
    · by_cases h2 : keep < (n : Int) - y
      · have := hz1 h h2; omega
      · have := hz2 h h2; omega
  rcases Decidable.em (keep < 0) with h | h
  case' inr => rcases Decidable.em (keep < (n : Int) - y) with h2 | h2
  case' inl =>
    obtain rfl := hz0 h
    rcases Decidable.em ((0 : Int) < (n : Int) - K) with h3 | h3
  case' inr.inl => have hK1 : (y : Int) + keep = K := (hz1 h h2).symm
  case' inr.inr =>
    obtain rfl := hz2 h h2
    have hK1 : (y : Int) + ((K : Int) - y) = K := by omega
  case' inl.inr => have hK1 : (K : Int) + ((n : Int) - K) = K := by omega
  all_goals
    clear hz0 hz1 hz2
    go_enter Try.func30, Try.ntmps30
    go_wp2_with fail
    go_quiet (fail)
    go_wp2_with fail
  all_goals
    go_end0
    first
      | exact Hfin.out _
      | (rw [hK1, Int.toNat_natCast]; exact Hfin.out _)
      | (rw [show (y : Int) + keep = (K : Int) by omega, Int.toNat_natCast]; exact Hfin.out _)
end Go.Proofs.Ytlopeflgleplfaa
