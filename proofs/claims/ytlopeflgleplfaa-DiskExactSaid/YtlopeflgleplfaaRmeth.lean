/-
  The walks of the page's disk: its writes.
-/
import Derived.Test.YtlopeflgleplfaaRwalk
namespace Go.Proofs.Ytlopeflgleplfaa
open Go.RowKit
theorem rcrash_any (base d : Nat) (v : Value) (s : DS) (keep : Int) (w : World) (h : RefAt w base d v s) :
    Calls Try.prog 30 #[.pointer (some ⟨d, 0, none⟩), .int .i64 keep] w (RPost w base d v (.tuple #[]) (s.crash keep)) := by
  cases ho : s.off
  · exact rcrash_on base d v s keep w h ho
  · exact rcrash_off base d v s keep w h ho
def AddPost (w : World) (l : List UInt8) (e : Ending) (w' : World) : Prop := ∃ v, e = .returned v ∧ OwnB w' w.heap.size v l ∧ Below w.heap.size w w'
set_option maxHeartbeats 800000 in
theorem add_any (A0 : Option Addr) (n0 c0 : Nat) (l0 : List UInt8) (A1 : Option Addr) (n1 c1 : Nat) (l1 : List UInt8) (w : World) (B0 B1 : Nat) (h0 : By w B0 A0 n0 c0 l0) (h1 : By w B1 A1 n1 c1 l1) (hB1 : B1 ≤ w.heap.size) (hn : n0 + n1 ≤ 140737488355328) :
    Calls Try.prog 34 #[.slice A0 n0 c0, .slice A1 n1 c1] w (AddPost w (l0 ++ l1)) := by
  have Hl := Lib.hid h0.len
  go_enter Try.func34, Try.ntmps34
  go_wp2_with (first
    | (at_builtin
       refine wpList_appB rfl (.tmp 6) (.tmp 7) rfl w.heap.size (.slice none 0 0) [] rfl (World.ownsRow_nil _ _ _ _) B0 A0 n0 c0 l0 rfl h0 (by simp; omega) (Nat.le_refl _) ?_
       intro v2 w2 ho2 hg2
       have hb2 : Below w.heap.size w w2 := (Below.refl _ _).grown hg2 (Nat.le_refl _) (by intro k hk; simp [Value.ownBlock] at hk))
    | (at_builtin
       refine wpList_appB rfl (.tmp 8) (.tmp 9) rfl w.heap.size v2 _ rfl ho2 B1 A1 n1 c1 l1 rfl (h1.below hb2 hB1) (by simp [Hl.out]; omega) hb2.size ?_
       intro v3 w3 ho3 hg3
       have hb3 : Below w.heap.size w w3 := hb2.grown hg3 hb2.size (fun k hk => (ho2.lt k hk).1)))
  go_ret
  exact ⟨v3, rfl, by simpa using ho3, hb3⟩
set_option maxHeartbeats 1600000 in
theorem rstart_any (base d : Nat) (v : Value) (s : DS) (w : World) (h : RefAt w base d v s) :
    Calls Try.prog 31 #[.pointer (some ⟨d, 0, none⟩)] w (RPost w base d v (.tuple #[]) s.start) := by
  obtain ⟨_, _, _, c3, _, _, hf⟩ := h.cell
  have hf3 := hf 3
  clear hf
  go_enter Try.func31, Try.ntmps31
  go_wp2_with fail
  go_end0
  exact ⟨rfl, v, h.set (s' := s.start) 3 _ rfl h.file h.ok.start, (FrmD.refl _ _ _).set _ _, NewOr.refl _ _⟩
set_option maxHeartbeats 1600000 in
theorem rtrip_any (base d : Nat) (v : Value) (s : DS) (n keep : Int) (w : World) (h : RefAt w base d v s) (hn : n ≤ 9223372036854775807) (hk : -9223372036854775808 ≤ keep ∧ keep ≤ 9223372036854775807) :
    Calls Try.prog 29 #[.pointer (some ⟨d, 0, none⟩), .int .i64 n, .int .i64 keep] w (RPost w base d v (.tuple #[]) (s.setTrip n keep)) := by
  obtain ⟨_, _, _, c3, c4, c5, hf⟩ := h.cell
  have hf4 := hf 4
  have hf5 := hf 5
  clear hf
  have ok := h.ok.setTrip n keep hn hk
  cases ho : s.off
  · rw [ho] at c3
    have e : s.setTrip n keep = { s with trip := (max n 0).toNat, keep := keep } := by simp [DS.setTrip, ho]
    rw [e] at ok ⊢
    have Ho := Lib.hid ho
    clear ho e
    by_cases h0 : n < 0
    all_goals
      go_enter Try.func29, Try.ntmps29
      go_wp2_with fail
    all_goals
      go_end0
      have hm : ((max n 0).toNat : Int) = max n 0 := by omega
      have q1 := h.set (s' := { s with trip := (max n 0).toNat }) 4 (.int .i64 ((max n 0).toNat : Int)) rfl h.file ⟨ok.room, ok.file, ok.synced, ok.trip, h.ok.keep⟩
      have q2 := q1.set (s' := { s with trip := (max n 0).toNat, keep := keep }) 5 (.int .i64 keep) rfl q1.file ok
      refine ⟨rfl, v, ?_, ((FrmD.refl _ _ _).set _ _).set _ _, NewOr.refl _ _⟩
      have e2 : ((max n 0).toNat : Int) = if n < 0 then 0 else n := by split <;> omega
      rw [e2] at q2
      first | exact q2 | (rw [if_pos (by omega)] at q2; exact q2) | (rw [if_neg (by omega)] at q2; exact q2)
  · rw [ho] at c3
    have e : s.setTrip n keep = s := by simp [DS.setTrip, ho]
    rw [e]
    clear ho e ok
    go_enter Try.func29, Try.ntmps29
    go_wp2_with fail
    go_end0
    exact ⟨rfl, v, h, FrmD.refl _ _ _, NewOr.refl _ _⟩
set_option maxHeartbeats 1600000 in
theorem rsync_any (base d : Nat) (v : Value) (s : DS) (w : World) (h : RefAt w base d v s) :
    Calls Try.prog 27 #[.pointer (some ⟨d, 0, none⟩)] w (RPost w base d v (.int .i64 s.sync.1) s.sync.2) := by
  obtain ⟨c0, c1, _, c3, _, _, hf⟩ := h.cell
  clear hf
  cases ho : s.off
  · rw [ho] at c3
    have Hs : Hid (s.sync = s.done fun s => { s with synced := s.file.length }) := by unfold Hid DS.sync; rw [ho]; rfl
    clear ho
    go_enter Try.func27, Try.ntmps27
    go_wp2_with fail
    refine (rlast_any _ _ _ _ _ h).mono ?_
    rintro e w3 ⟨rfl, q3, hf3⟩
    by_cases hl : s.isLast = true
    · have Hl : Hid (s.sync = (4, s.count.crash s.count.keep)) := by unfold Hid; rw [Hs.out, DS.done, if_pos hl]
      rw [hl]
      clear hl
      obtain ⟨_, _, _, _, _, c5, _⟩ := q3.cell
      go_wp2_with fail
      refine (rcrash_any _ _ _ _ _ _ q3).mono ?_
      rintro e w4 ⟨rfl, v4, q4, hf4, hn4⟩
      go_wp2_with fail
      go_ret
      exact ⟨by rw [Hl.out]; rfl, v4, by rw [Hl.out]; exact q4, hf3.trans (NewOr.refl _ _) hf4, (NewOr.refl w v).trans hn4 hf3.size⟩
    · have Hl : Hid (s.sync = (0, { s.count with synced := s.count.file.length })) := by unfold Hid; rw [Hs.out, DS.done, if_neg hl]
      have hlf : s.isLast = false := by simpa using hl
      rw [hlf]
      clear hl hlf
      obtain ⟨n, hn⟩ : ∃ n, Hid (s.count.file.length = n) := ⟨_, rfl⟩
      obtain ⟨A, cap, rfl, hy⟩ := own_by q3.file hn.out
      obtain ⟨_, c1', _, _, _, _, hfz⟩ := q3.cell
      have hz2 := hfz 2
      have hr := q3.ok.room
      have hfl := q3.ok.file
      obtain ⟨_, _, c2, _, _, _, _⟩ := q3.cell
      rw [hn.out] at hfl
      clear hfz
      go_wp2_with fail
      go_ret
      refine ⟨by rw [Hl.out]; rfl, _, ?_, hf3.set _ _, NewOr.refl _ _⟩
      rw [Hl.out]
      refine q3.set (s' := { s.count with synced := s.count.file.length }) 2 _ ?_ q3.file ⟨q3.ok.room, q3.ok.file, Nat.le_refl _, q3.ok.trip, q3.ok.keep⟩
      rw [hn.out]
      rfl
  · rw [ho] at c3
    have Hs : Hid (s.sync = (4, s)) := by unfold Hid DS.sync; rw [ho]; rfl
    clear ho
    go_enter Try.func27, Try.ntmps27
    go_wp2_with fail
    go_ret
    exact ⟨by rw [Hs.out]; rfl, v, by rw [Hs.out]; exact h, FrmD.refl _ _ _, NewOr.refl _ _⟩
end Go.Proofs.Ytlopeflgleplfaa
